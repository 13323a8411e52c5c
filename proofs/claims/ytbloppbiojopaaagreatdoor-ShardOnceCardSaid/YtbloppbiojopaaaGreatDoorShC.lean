/- Package shard: delete. -/
import Derived.Test.YtbloppbiojopaaaGreatDoorShB
set_option maxRecDepth 100000
namespace Go.Proofs.YtbloppbiojopaaaGreatDoor
open Go Go.RowKit

theorem TabR.grow0 {w : World} {F : Nat → Prop} {t mb : Nat} {l : Tab} (h : TabR w F t mb l) (n : Nat) (_ : w.heap.size ≤ n) : TabR w (grown F n n) t mb l := by
  have hlt := h.lt
  obtain ⟨g1, g2, g3, g4, raw, g5, g6⟩ := h
  exact ⟨g1, g2, fun h => h.elim g3 (by omega), fun h => h.elim g4 (by omega), raw, g5, g6.mono fun _ _ h => h.mono fun _ h => .inl h⟩

theorem ShR.grow0 {w : World} {F : Nat → Prop} {a : ShAt} {x : ShSt} (h : ShR w F a x) (n : Nat) : ShR w (grown F n n) a x := by
  obtain ⟨g1, ⟨e1, e2, e3, e4, r, e5, e6⟩, ⟨raw, g3, g4⟩, g5, g6, g7⟩ := h
  have hf : ∀ k, grown F n n k → F k := fun k hk => hk.elim id (by omega)
  exact ⟨g1, ⟨e1, e2, fun h => e3 (hf _ h), fun h => e4 (hf _ h), r, e5, e6.mono fun _ _ h => h.mono fun _ h => .inl h⟩, ⟨raw, g3, g4.mono fun _ _ h => h.mono fun _ h => .inl h⟩, g5, ⟨fun h => g6.1 (hf _ h), fun h => g6.2 (hf _ h)⟩, fun k hk => g7 k (hf _ hk)⟩

theorem shDelete_ok (F : Nat → Prop) (a : ShAt) (x : ShSt) (kind client seq : Int) (k : ByteArray) (vt : Value) (text : List UInt8) (w : World) (h : ShR w F a x) (ht : SlR w encB vt text) (h1 : 1 ≤ k.size) (h2 : k.size ≤ 64) (has : Bool) (hhas : (tabGet k x.tab).2.1 = has) :
    Calls Tryz.prog 28 #[P0 a.s, .agg #[.int .i64 kind, .int .i64 client, .int .i64 seq, .string k, vt]] w fun e w' => e = .returned (.agg #[.int .i64 (if has then 0 else 7), .slice none 0 0]) ∧ ShNew (only a.mb) w w' F a { x with tab := if has then mput k ([], false) x.tab else x.tab } := by
  obtain ⟨At, ct, rfl, -⟩ := id ht
  have H := Lib.hid h
  have HH := Lib.hid hhas
  have hlts := (Array.getElem?_eq_some_iff.1 h.cells).1
  have hltt := h.tab.lt
  obtain ⟨raw, hltm, -⟩ := h.sess
  have hltm := hltm.lt
  clear h ht hhas
  cases has
  all_goals
    go_enter Tryz.func28, Tryz.ntmps28
    go_wp2_with fail
    have hm0 : Mod no w ((w.alloc (.cells #[.int .i64 kind, .int .i64 client, .int .i64 seq, .string k, .slice At text.length ct] 58)).alloc (.cells #[.int .i64 0, .slice none 0 0] 76)) := ((Mod.refl no w).alloc _).alloc _
    have hB := heap_two w (.cells #[.int .i64 kind, .int .i64 client, .int .i64 seq, .string k, .slice At text.length ct] 58) (.cells #[.int .i64 0, .slice none 0 0] 76)
    refine (shGet_any F a x k _ (H.out.mod0 hm0)).mono ?_
    rintro e w1 ⟨v, rfl, -, -, hm1⟩
    rw [HH.out]
    have hm := hm0.trans hm1
    have hB1 := hm1.heap hB (no_false _)
    have hR : w1.heap[w.heap.size + 1]? = some (.cells #[.int .i64 0, .slice none 0 0] 76 (0, 0)) := by
      have := heap_alloc_new (w.alloc (.cells #[.int .i64 kind, .int .i64 client, .int .i64 seq, .string k, .slice At text.length ct] 58)) (.cells #[.int .i64 0, .slice none 0 0] 76)
      simp only [World.size_alloc] at this
      exact hm1.heap this (no_false _)
    have hS := H.out.mod0 hm
    have HS := Lib.hid hS
    have HM := Lib.hid hm
    have HR := Lib.hid hR
    have HB := Lib.hid hB1
    clear hm0 hB hm1 hm hB1 hR hS
  · have f0 := free_of_heap (i := 0) HR.out
    have f1 := free_of_heap (i := 1) HR.out
    have r0 := cell_of_heap (i := 0) HR.out
    have r1 := cell_of_heap (i := 1) HR.out
    simp only [List.getElem?_toArray, List.getElem?_cons_zero, List.getElem?_cons_succ] at r0 r1
    go_wp2_with fail
    refine bodyPost_ret (by rw [results_cell1 rfl]; go_simp; rfl) rfl ?_
    refine ⟨rfl, w.heap.size, w.heap.size, ShR.mod (HS.out.grow0 w.heap.size) (S := only (w.heap.size + 1)) ((((Mod.refl _ w1)).put (only_self _) _).put (only_self _) _) ?_, Nat.le_refl _, (by have := HM.out.size; simp; omega), ((HM.out.mono (fun _ _ f => f.elim)).putNew (by omega) _).putNew (by omega) _⟩
    intro j hj e
    unfold only at e
    rcases hj with hj | hj | hj | hj | hj
    · omega
    · omega
    · omega
    · omega
    · rcases hj with hj | hj
      · have := H.out.texts j hj; omega
      · omega
  · have c3 := cell_of_heap (i := 3) HB.out
    have d5 := cell_of_heap (i := 5) HS.out.cells
    simp only [List.getElem?_toArray, List.getElem?_cons_zero, List.getElem?_cons_succ] at c3 d5
    go_wp2_with fail
    go_still_tail 6, (by kernel_rfl)
    change wpList _ _ _ _ _ w1.drew
    generalize hW2 : w1.drew = W2
    have hS2 : ShR W2 F a x := by rw [← hW2]; exact HS.out.mod0 (Mod.refl no w1).drew
    have hm2 : Mod no w W2 := by rw [← hW2]; exact HM.out.drew
    have hR2 : W2.heap[w.heap.size + 1]? = some (.cells #[.int .i64 0, .slice none 0 0] 76 (0, 0)) := by rw [← hW2]; exact HR.out
    have HS2 := Lib.hid hS2
    have HM2 := Lib.hid hm2
    have HR2 := Lib.hid hR2
    have hRlt := (Array.getElem?_eq_some_iff.1 hR2).1
    clear hW2 hS2 hm2 hR2 c3 d5 HS HM HR HB
    go_wp2_with fail
    refine (memDelete_ok _ a.t a.mb x.tab k W2 (HS2.out.tab.grow0 W2.heap.size (Nat.le_refl _)) h1 h2).mono ?_
    rintro e w3 ⟨rfl, g1, g2⟩
    have hs3 := HS2.out.tabSet g2 g1 (Nat.le_refl _) g2.size
    have hne : ¬ only a.mb (w.heap.size + 1) := fun e => by unfold only at e; omega
    have hR3 := g2.heap HR2.out hne
    have hm3 := (HM2.out.mono (T := only a.mb) (fun _ _ f => f.elim)).trans g2
    have f0 := free_of_heap (i := 0) hR3
    have f1 := free_of_heap (i := 1) hR3
    have r0 := cell_of_heap (i := 0) hR3
    have r1 := cell_of_heap (i := 1) hR3
    simp only [List.getElem?_toArray, List.getElem?_cons_zero, List.getElem?_cons_succ] at r0 r1
    have HS3 := Lib.hid hs3
    have HM3 := Lib.hid hm3
    have hsz := hm3.size
    have hsz3 := g2.size
    have hsz2 := HM2.out.size
    clear g1 g2 hs3 hm3 hne hR3 HS2 HM2 HR2
    go_wp2_with fail
    refine bodyPost_ret (by rw [results_cell1 rfl]; go_simp; rfl) rfl ?_
    refine ⟨rfl, W2.heap.size, W2.heap.size, ShR.mod HS3.out (S := only (w.heap.size + 1)) ((((Mod.refl _ w3)).put (only_self _) _).put (only_self _) _) ?_, hsz2, (by simp; omega), (HM3.out.putNew (by omega) _).putNew (by omega) _⟩
    intro j hj e
    unfold only at e
    rcases hj with hj | hj | hj | hj | hj
    · omega
    · omega
    · omega
    · omega
    · rcases hj with hj | hj
      · have := H.out.texts j hj; omega
      · omega

/-- What an op that is to be done does: the table, the error, the numbers. -/
def doesSt (x : ShSt) (kind : Int) (k : ByteArray) (text : List UInt8) : Tab × Int × List Int :=
  if kind = 1 then (mput k (text, true) x.tab, 0, [if (tabGet k x.tab).2.1 then 1 else 0])
  else if (tabGet k x.tab).2.1 then (mput k ([], false) x.tab, 0, []) else (x.tab, 7, [])

theorem ShR.full {w : World} {F : Nat → Prop} {a : ShAt} {x : ShSt} {n1 n2 : Nat} (h : ShR w (grown F n1 n2) a x) (h1 : a.s < n1 ∧ a.t < n1 ∧ a.mb < n1 ∧ a.sm < n1) : ShR w (grown F n1 w.heap.size) a x := by
  obtain ⟨g1, ⟨e1, e2, e3, e4, r, e5, e6⟩, ⟨raw, g3, g4⟩, g5, g6, g7⟩ := h
  have hf : ∀ k, grown F n1 n2 k → grown F n1 w.heap.size k := fun k hk => hk.elim .inl (fun h => .inr ⟨h.1, g7 k hk⟩)
  have hb : ∀ k, k < n1 → grown F n1 w.heap.size k → grown F n1 n2 k := fun k hk h => h.elim .inl (by omega)
  exact ⟨g1, ⟨e1, e2, fun h => e3 (hb _ h1.2.1 h), fun h => e4 (hb _ h1.2.2.1 h), r, e5, e6.mono fun _ _ h => h.mono hf⟩, ⟨raw, g3, g4.mono fun _ _ h => h.mono hf⟩, g5, ⟨fun h => g6.1 (hb _ h1.1 h), fun h => g6.2 (hb _ h1.2.2.2 h)⟩, fun k hk => hk.elim (fun h => g7 k (.inl h)) (by omega)⟩

theorem ShR.sesSet {w w' : World} {F : Nat → Prop} {a : ShAt} {x : ShSt} {raw : List (Int × Value)} {client seq : Int} {rep : List UInt8} {v : Value} (h : ShR w F a x) (hr : Ents (SesR w F) x.sess raw) (hv : SesR w F (seq, rep) v) (hm : Mod (only a.sm) w w') (hM : MapR w' encI (fun v : Value => v) a.sm (mput client v raw)) :
    ShR w' F a { x with sess := mput client (seq, rep) x.sess } := by
  obtain ⟨g1, g2, -, g5, g6, g7⟩ := h
  have hf : ∀ k, F k → ¬ only a.sm k := fun k hk e => g6.2 (by cases e; exact hk)
  exact ⟨hm.heap g1 (fun e => g5.2.2.1 e), g2.mod hm (fun e => g5.2.2.2.1 e) (fun e => g5.2.2.2.2 e) hf, ⟨_, hM, (hr.put client hv).mono fun _ _ h => h.mod hm hf⟩, g5, g6, fun k hk => Nat.lt_of_lt_of_le (g7 k hk) hm.size⟩

theorem shDoes1 (F : Nat → Prop) (a : ShAt) (x : ShSt) (client seq : Int) (k : ByteArray) (vt : Value) (text : List UInt8) (w : World) (h : ShR w F a x) (ht : SlR w encB vt text) (hl : text.length ≤ 4096) (h1 : 1 ≤ k.size) (h2 : k.size ≤ 64) (q : Tab × Int × List Int) (hq : doesSt x 1 k text = q) :
    Calls Tryz.prog 27 #[P0 a.s, .agg #[.int .i64 1, .int .i64 client, .int .i64 seq, .string k, vt]] w fun e w' => ∃ v, e = .returned (.agg #[.int .i64 q.2.1, v]) ∧ SlR w' encI v q.2.2 ∧ ShNew (only a.mb) w w' F a { x with tab := q.1 } := by
  subst hq
  refine (shPut_ok F a x 1 client seq k vt text w h ht hl h1 h2).mono ?_
  rintro e w' ⟨v, rfl, g1, -, g2⟩
  exact ⟨v, rfl, g1, g2⟩

theorem shDoes2 (F : Nat → Prop) (a : ShAt) (x : ShSt) (client seq : Int) (k : ByteArray) (vt : Value) (text : List UInt8) (w : World) (h : ShR w F a x) (ht : SlR w encB vt text) (h1 : 1 ≤ k.size) (h2 : k.size ≤ 64) (q : Tab × Int × List Int) (hq : doesSt x 2 k text = q) :
    Calls Tryz.prog 28 #[P0 a.s, .agg #[.int .i64 2, .int .i64 client, .int .i64 seq, .string k, vt]] w fun e w' => ∃ v, e = .returned (.agg #[.int .i64 q.2.1, v]) ∧ SlR w' encI v q.2.2 ∧ ShNew (only a.mb) w w' F a { x with tab := q.1 } := by
  subst hq
  refine (shDelete_ok F a x 2 client seq k vt text w h ht h1 h2 _ rfl).mono ?_
  rintro e w' ⟨rfl, g2⟩
  unfold doesSt
  cases hh : (tabGet k x.tab).2.1
  · rw [hh] at g2; exact ⟨_, rfl, SlR.nil _ _, g2⟩
  · rw [hh] at g2; exact ⟨_, rfl, SlR.nil _ _, g2⟩

theorem doesSt_nums (x : ShSt) (kind : Int) (k : ByteArray) (text : List UInt8) : (doesSt x kind k text).2.2.length ≤ 1 := by
  unfold doesSt; split
  · simp
  · split <;> simp

theorem doesSt_tab (x : ShSt) (kind : Int) (k : ByteArray) (text : List UInt8) : (doesSt x kind k text).1.length ≤ x.tab.length + 1 := by
  unfold doesSt
  have h := fun v => mput_len k v x.tab
  split
  · simp only [h]; split <;> omega
  · split
    · simp only [h]; split <;> omega
    · simp
end Go.Proofs.YtbloppbiojopaaaGreatDoor
