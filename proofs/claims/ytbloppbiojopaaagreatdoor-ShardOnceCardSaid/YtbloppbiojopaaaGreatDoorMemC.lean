/- Package mem: the table's Put, Delete, New. -/
import Derived.Test.YtbloppbiojopaaaGreatDoorMemB
set_option maxRecDepth 100000
namespace Go.Proofs.YtbloppbiojopaaaGreatDoor
open Go Go.RowKit

/-- Blocks of F, and new ones that are not w's. -/
def grown (F : Nat → Prop) (a b : Nat) : Nat → Prop := fun k => F k ∨ (a ≤ k ∧ k < b)

theorem TabR.grow {w w' : World} {F : Nat → Prop} {t mb : Nat} {l : Tab} (h : TabR w F t mb l) (hm : Mod no w w') : TabR w' (grown F w.heap.size w'.heap.size) t mb l := by
  have hlt := h.lt
  obtain ⟨g1, g2, g3, g4, raw, g5, g6⟩ := h
  exact ⟨hm.heap g1 (no_false _), g2, fun h => h.elim g3 (by omega), fun h => h.elim g4 (by omega), raw, g5.mod hm (no_false _), g6.mono fun _ _ h => (h.mod hm (fun _ _ => no_false _)).mono fun _ h => .inl h⟩

theorem owns_block {w : World} {base : Nat} {e : TypeId} {size : Nat} {v : Value} {n : Nat} {xs : List Value} (h : w.ownsRow base e size v n xs) (k : Nat) (hk : v.ownBlock = some k) : base ≤ k ∧ k < w.heap.size := by
  rcases h.2 with ⟨rfl, -⟩ | ⟨g, cap, cur, rfl, hb, hg, -⟩
  · cases hk
  · simp [Value.ownBlock] at hk
    subst hk
    exact ⟨hb, (Array.getElem?_eq_some_iff.1 hg).1⟩

theorem memPut_ok (F : Nat → Prop) (t mb : Nat) (l : Tab) (k : ByteArray) (vt : Value) (text : List UInt8) (w : World) (h : TabR w F t mb l) (h1 : 1 ≤ k.size) (h2 : k.size ≤ 64) (ht : SlR w encB vt text) (hl : text.length ≤ 4096) :
    Calls Tryz.prog 70 #[P0 t, .string k, vt] w fun e w' => e = .returned (.int .i64 0) ∧ TabR w' (grown F w.heap.size w'.heap.size) t mb (mput k (text, true) l) ∧ Mod (only mb) w w' := by
  obtain ⟨At, ct, rfl, ht1, ht2, -⟩ := id ht
  have HT := Lib.hid ht
  have H := Lib.hid h
  have hl' : ¬ (4096 < (text.length : Int)) := by omega
  clear h ht
  go_enter Tryz.func70, Tryz.ntmps70
  go_wp2_with (go_at_call 128; refine (memMay_any t k _ h1 h2).mono ?_; rintro e W ⟨rfl, hw⟩; rw [hw]; clear hw W)
  refine (bClone_any _ text w HT.out (by omega)).mono ?_
  rintro e w1 ⟨s, rfl, g1, g2, -⟩
  have hk : KnR w1 (grown F w.heap.size w1.heap.size) (text, true) (.agg #[s, .bool true]) := ⟨s, rfl, RowR.ofOwns g1, hl, fun k hk => .inr (owns_block g1 k hk)⟩
  have htab := H.out.grow g2
  obtain ⟨A1, c1, rfl⟩ := owns_slice g1
  have HK := Lib.hid hk
  have HTAB := Lib.hid htab
  have HG2 := Lib.hid g2
  clear hk htab g1 g2 ht1 ht2
  go_wp2_with fail
  refine (memLay_any _ t mb l k (text, true) _ w1 HTAB.out HK.out).mono ?_
  rintro e w2 ⟨rfl, g3, g4⟩
  have G3 := Lib.hid g3
  have G4 := Lib.hid g4
  clear g3 g4
  go_wp2_with fail
  go_ret
  refine ⟨rfl, ?_, (HG2.out.mono (fun _ _ f => f.elim)).trans G4.out⟩
  obtain ⟨e1, e2, e3, e4, raw, e5, e6⟩ := G3.out
  have hsz := G4.out.size
  have hsz1 := HG2.out.size
  have hlt := H.out.lt
  have hF := H.out
  exact ⟨e1, e2, fun h => h.elim hF.2.2.1 (by omega), fun h => h.elim hF.2.2.2.1 (by omega), raw, e5, e6.mono fun _ _ h => h.mono fun k hk => hk.imp id (fun h => ⟨h.1, by omega⟩)⟩

theorem memDelete_ok (F : Nat → Prop) (t mb : Nat) (l : Tab) (k : ByteArray) (w : World) (h : TabR w F t mb l) (h1 : 1 ≤ k.size) (h2 : k.size ≤ 64) :
    Calls Tryz.prog 71 #[P0 t, .string k] w fun e w' => e = .returned (.int .i64 0) ∧ TabR w' F t mb (mput k ([], false) l) ∧ Mod (only mb) w w' := by
  have H := Lib.hid h
  have hk : KnR w F ([], false) (.agg #[.slice none 0 0, .bool false]) := ⟨_, rfl, SlR.nil _ _, by simp, fun k hk => by cases hk⟩
  have HK := Lib.hid hk
  clear h hk
  go_enter Tryz.func71, Tryz.ntmps71
  go_wp2_with (first
    | (go_at_call 128; refine (memMay_any t k _ h1 h2).mono ?_; rintro e W ⟨rfl, hw⟩; rw [hw]; clear hw W)
    | (go_at_call 129; refine (memLay_any _ t mb l k ([], false) _ w H.out HK.out).mono ?_; rintro e w2 ⟨rfl, g3, g4⟩; have G3 := Lib.hid g3; have G4 := Lib.hid g4; clear g3 g4))
  go_ret
  exact ⟨rfl, G3.out, G4.out⟩

theorem makeMap_eq (t : TypeId) : ∀ w, (Instr.makeMap t none).run Tryz.prog w = .ok (.map (some w.heap.size)) (w.alloc (.map #[] 0)) := fun _ => rfl

theorem memNew_any (w : World) :
    Calls Tryz.prog 39 #[.slice none 0 0] w fun e w' => ∃ t mb, e = .returned (P0 t) ∧ TabR w' no t mb [] ∧ w.heap.size ≤ t ∧ w.heap.size ≤ mb ∧ Mod no w w' := by
  have hmk := makeMap_eq
  go_enter Tryz.func39, Tryz.ntmps39
  go_wp2
  refine wp_loop_rounds 1 ?_
  rw [rounds_succ]
  go_wp2_with fail
  go_ret
  refine ⟨w.heap.size + 1, w.heap.size, rfl, ⟨?_, by omega, no_false _, no_false _, [], ?_, .nil⟩, by omega, by omega, ((Mod.refl no w).alloc _).alloc _⟩
  · exact (congrArg (fun k => ((w.alloc (.map #[] 0)).alloc _).heap[k]?) (by simp)).trans (heap_alloc_new _ _)
  · exact MapR.mod (MapR.made _ _ w w.heap.size rfl) ((Mod.refl no _).alloc _) (no_false _)
end Go.Proofs.YtbloppbiojopaaaGreatDoor
