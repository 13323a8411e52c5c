/- Package shard: put and delete. -/
import Derived.Test.YtbloppbiojopaaaGreatDoorShA
import Derived.Handy
set_option maxRecDepth 100000
namespace Go.Proofs.YtbloppbiojopaaaGreatDoor
open Go Go.RowKit

theorem ShR.tabSet {w w' : World} {F : Nat → Prop} {a : ShAt} {x : ShSt} {n1 n2 : Nat} {tab' : Tab} (h : ShR w F a x) (hm : Mod (only a.mb) w w') (ht : TabR w' (grown F n1 n2) a.t a.mb tab') (h1 : w.heap.size ≤ n1) (h2 : n2 ≤ w'.heap.size) :
    ShR w' (grown F n1 n2) a { x with tab := tab' } := by
  have hlt := (Array.getElem?_eq_some_iff.1 h.cells).1
  obtain ⟨g1, g2, ⟨raw, g3, g4⟩, g5, g6, g7⟩ := h
  have hmb := g2.2.2.2.1
  refine ⟨hm.heap g1 g5.2.1, ht, ⟨raw, g3.mod hm (fun e => g5.2.2.2.2 e.symm), g4.mono fun _ _ h => (h.mod hm fun k hk e => hmb (by cases e; exact hk)).mono fun _ h => .inl h⟩, g5, ⟨fun h => h.elim g6.1 (by omega), fun h => h.elim g6.2 (by have := g3.lt; omega)⟩, fun k hk => ?_⟩
  rcases hk with hk | hk
  · exact Nat.lt_of_lt_of_le (g7 k hk) hm.size
  · omega

theorem results_cell1 {fn : Func} {p : Tmp} {ty : TypeId} (h : fn.results = #[.cell p ty]) (tmps : Array Value) (P : Program) (w : World) :
    (results fn tmps).run P w = ((asAddr (tmps.getD p undef)).run P w).andThen fun a w₁ => (loadVar ty a).run P w₁ := by
  simp only [results, h]
  simp [Sem.run_bind]

/-- Behind a call that has turned the shard to x, and blocks of S besides. -/
def ShNew (S : Nat → Prop) (w w' : World) (F : Nat → Prop) (a : ShAt) (x : ShSt) : Prop :=
  ∃ n1 n2, ShR w' (grown F n1 n2) a x ∧ w.heap.size ≤ n1 ∧ n1 ≤ w'.heap.size ∧ Mod S w w'

theorem shPut_ok (F : Nat → Prop) (a : ShAt) (x : ShSt) (kind client seq : Int) (k : ByteArray) (vt : Value) (text : List UInt8) (w : World) (h : ShR w F a x) (ht : SlR w encB vt text) (hl : text.length ≤ 4096) (h1 : 1 ≤ k.size) (h2 : k.size ≤ 64) :
    Calls Tryz.prog 27 #[P0 a.s, .agg #[.int .i64 kind, .int .i64 client, .int .i64 seq, .string k, vt]] w fun e w' => ∃ v, e = .returned (.agg #[.int .i64 0, v]) ∧ SlR w' encI v [if (tabGet k x.tab).2.1 then 1 else 0] ∧ (∀ b, v.ownBlock = some b → w.heap.size ≤ b) ∧ ShNew (only a.mb) w w' F a { x with tab := mput k (text, true) x.tab } := by
  obtain ⟨At, ct, rfl, -⟩ := id ht
  have H := Lib.hid h
  have HT := Lib.hid ht
  obtain ⟨has, hhas⟩ : ∃ b, b = (tabGet k x.tab).2.1 := ⟨_, rfl⟩
  rw [← hhas]
  have HH := Lib.hid hhas
  clear h ht hhas
  cases has
  all_goals
    go_enter Tryz.func27, Tryz.ntmps27
    go_wp2_with fail
    have hm0 : Mod no w ((w.alloc (.cells #[.int .i64 kind, .int .i64 client, .int .i64 seq, .string k, .slice At text.length ct] 58)).alloc (.cells #[.int .i64 0, .slice none 0 0] 76)) := ((Mod.refl no w).alloc _).alloc _
    have hB := heap_two w (.cells #[.int .i64 kind, .int .i64 client, .int .i64 seq, .string k, .slice At text.length ct] 58) (.cells #[.int .i64 0, .slice none 0 0] 76)
    refine (shGet_any F a x k _ (H.out.mod0 hm0)).mono ?_
    rintro e w1 ⟨v, rfl, -, -, hm1⟩
    rw [← HH.out]
    have hm := hm0.trans hm1
    have hB1 := hm1.heap hB (no_false _)
    have hR : w1.heap[w.heap.size + 1]? = some (.cells #[.int .i64 0, .slice none 0 0] 76 (0, 0)) := by
      have := heap_alloc_new (w.alloc (.cells #[.int .i64 kind, .int .i64 client, .int .i64 seq, .string k, .slice At text.length ct] 58)) (.cells #[.int .i64 0, .slice none 0 0] 76)
      simp only [World.size_alloc] at this
      exact hm1.heap this (no_false _)
    have hS := H.out.mod0 hm
    have ht1 := RowR.mod HT.out hm (fun _ _ => no_false _)
    have c3 := cell_of_heap (i := 3) hB1
    have c4 := cell_of_heap (i := 4) hB1
    have d5 := cell_of_heap (i := 5) hS.cells
    simp only [List.getElem?_toArray, List.getElem?_cons_zero, List.getElem?_cons_succ] at c3 c4 d5
    have HS := Lib.hid hS
    have HT1 := Lib.hid ht1
    have HM := Lib.hid hm
    have HR := Lib.hid hR
    clear hm0 hB hm1 hm hB1 hR hS ht1
    go_wp2_with fail
    go_still_tail 8, (by kernel_rfl)
    change wpList _ _ _ _ _ w1.drew
    generalize hW2 : w1.drew = W2
    have hS2 : ShR W2 F a x := by rw [← hW2]; exact HS.out.mod0 (Mod.refl no w1).drew
    have ht2 : SlR W2 encB (.slice At text.length ct) text := by rw [← hW2]; exact RowR.mod HT1.out (Mod.refl no w1).drew (fun _ _ => no_false _)
    have hm2 : Mod no w W2 := by rw [← hW2]; exact HM.out.drew
    have hR2 : W2.heap[w.heap.size + 1]? = some (.cells #[.int .i64 0, .slice none 0 0] 76 (0, 0)) := by rw [← hW2]; exact HR.out
    have HS2 := Lib.hid hS2
    have HT2 := Lib.hid ht2
    have HM2 := Lib.hid hm2
    have HR2 := Lib.hid hR2
    have hRlt := (Array.getElem?_eq_some_iff.1 hR2).1
    clear hW2 hS2 ht2 hm2 hR2 c3 c4 d5 HS HT1 HM HR
    go_wp2_with fail
    refine (memPut_ok F a.t a.mb x.tab k _ text W2 HS2.out.tab h1 h2 HT2.out hl).mono ?_
    rintro e w3 ⟨rfl, g1, g2⟩
    have hs3 := HS2.out.tabSet g2 g1 (Nat.le_refl _) (Nat.le_refl _)
    have hne : ¬ only a.mb (w.heap.size + 1) := fun e => by have := H.out.tab.lt.2; unfold only at e; omega
    have hR3 := g2.heap HR2.out hne
    have hm3 := (HM2.out.mono (T := only a.mb) (fun _ _ f => f.elim)).trans g2
    have hR30 := ((Mod.refl no w3).alloc (.cells #[.int .i64 0] 3)).heap hR3 (no_false _)
    have f00 := free_of_heap (i := 0) hR30
    have r00 := cell_of_heap (i := 0) hR30
    have f10 := free_of_heap (i := 1) hR30
    have r10 := cell_of_heap (i := 1) hR30
    have hR31 := ((Mod.refl no w3).alloc (.cells #[.int .i64 1] 3)).heap hR3 (no_false _)
    have f01 := free_of_heap (i := 0) hR31
    have r01 := cell_of_heap (i := 0) hR31
    have f11 := free_of_heap (i := 1) hR31
    have r11 := cell_of_heap (i := 1) hR31
    simp only [List.getElem?_toArray, List.getElem?_cons_zero, List.getElem?_cons_succ] at r00 r10 r01 r11
    clear hR30 hR31
    have HS3 := Lib.hid hs3
    have HM3 := Lib.hid hm3
    have hsz := hm3.size
    have hsz3 := g2.size
    have hsz2 := HM2.out.size
    have hmb := H.out.tab.lt.2
    clear g1 g2 hs3 hm3 hne hR3 HS2 HT2 HM2 HR2
    go_wp2_with fail
    refine bodyPost_ret (by rw [results_cell1 rfl]; go_simp; rfl) rfl ?_
    have hnb : ∀ j, only (w.heap.size + 1) j → w.heap.size ≤ j := fun j hj => by unfold only at hj; omega
    refine ⟨_, rfl, ?_, fun b hb => by simp [Value.ownBlock] at hb; omega, W2.heap.size, w3.heap.size, ShR.mod HS3.out (S := only (w.heap.size + 1)) ?_ ?_, hsz2, by simp; omega, ?_⟩
    · refine RowR.mod (RowR.madeAt w3 [.int .i64 _] 3 1 _ rfl (by omega)) (S := only (w.heap.size + 1)) (((Mod.refl _ _).put (only_self _) _).put (only_self _) _) (fun j hj => by simp [Value.ownBlock] at hj; unfold only; omega)
    · exact (((Mod.refl _ w3).alloc _).put (only_self _) _).put (only_self _) _
    · have e1 := (Array.getElem?_eq_some_iff.1 H.out.cells).1
      have e2 := H.out.tab.lt
      obtain ⟨raw, e3, -⟩ := H.out.sess
      have e4 := e3.lt
      intro j hj e
      unfold only at e
      rcases hj with hj | hj | hj | hj | hj
      · omega
      · omega
      · omega
      · omega
      · rcases hj with hj | hj
        · have := H.out.texts j hj; omega
        · omega
    · exact ((HM3.out.alloc _).putNew (by omega) _).putNew (by omega) _
end Go.Proofs.YtbloppbiojopaaaGreatDoor
