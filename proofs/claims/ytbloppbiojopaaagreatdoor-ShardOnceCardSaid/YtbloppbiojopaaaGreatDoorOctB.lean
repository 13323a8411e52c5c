/- Package octet: the Reader, more. -/
import Derived.Test.YtbloppbiojopaaaGreatDoorOctA
set_option maxRecDepth 100000
namespace Go.Proofs.YtbloppbiojopaaaGreatDoor
open Go Go.RowKit

theorem NewReader_any (v : Value) (l : List UInt8) (w : World) (h : SlR w encB v l) (hl : l.length ≤ 100000000000) :
    Calls Tryz.prog 64 #[v] w fun e w' => ∃ r c, e = .returned (P0 r) ∧ w.heap.size ≤ r ∧ r < w'.heap.size ∧ w.heap.size ≤ c ∧ IsRd w' r c l false ∧ Mod no w w' := by
  have H := Lib.hid h
  clear h
  go_enter Tryz.func64, Tryz.ntmps64
  go_wp2_with (go_at_call 26; refine (bClone_any v l w H.out hl).mono ?_; rintro e w' ⟨v', rfl, h1, h2, h3⟩; obtain ⟨A', c', rfl⟩ := owns_slice h1)
  go_ret
  have hb := h1.lt
  obtain ⟨c, hc, hc2, hc3⟩ : ∃ c, (∀ k, (Value.slice A' l.length c').ownBlock = some k → k = c) ∧ w.heap.size ≤ c ∧ c ≠ w'.heap.size := by
    cases A' with
    | none => exact ⟨w'.heap.size + 1, fun k hk => by simp [Value.ownBlock] at hk, by have := h2.size; omega, by omega⟩
    | some a =>
      obtain ⟨q1, q2⟩ := hb a.block rfl
      exact ⟨a.block, fun k hk => by simpa [Value.ownBlock] using hk.symm, q1, by omega⟩
  exact ⟨w'.heap.size, c, rfl, h2.size, by simp, hc2, ⟨_, heap_alloc_new _ _, RowR.mod (RowR.ofOwns (by simpa using h1)) (Mod.alloc (Mod.refl no _) _) (fun _ _ f => f), hc, hl, hc3⟩, h2.alloc _⟩

theorem RRaw_bad (r bc : Nat) (l : List UInt8) (bad : Bool) (n : Int) (w : World) (h : IsRd w r bc l bad) (hn : n < 0 ∨ (l.length : Int) < n) :
    Calls Tryz.prog 89 #[P0 r, .int .i64 n] w fun e w' => e = .returned (.slice none 0 0) ∧ IsRd w' r bc [] true ∧ Mod (only r) w w' := by
  obtain ⟨v, hh, ⟨A, cap, rfl, hc1, hc2, hc3, hc4⟩, hne, hl, hcr⟩ := h
  have c0 : w.cell? ⟨r, 0, none⟩ = some (.slice A l.length cap) := cell_of_heap hh
  have H := Lib.hid hh
  clear hh hc3 hc4 hc2 hc1 hne
  by_cases h0 : n < 0
  · clear hn
    go_enter Tryz.func89, Tryz.ntmps89
    go_wp2_with (go_at_call 86; refine (RBad_any r bc _ _ w hcr H.out).mono ?_; rintro e w' ⟨rfl, h1, h2⟩)
    go_ret
    exact ⟨rfl, h1, h2⟩
  · have h1 : (l.length : Int) < n := by omega
    clear hn
    go_enter Tryz.func89, Tryz.ntmps89
    go_wp2_with (go_at_call 86; refine (RBad_any r bc _ _ w hcr H.out).mono ?_; rintro e w' ⟨rfl, h1, h2⟩)
    go_ret
    exact ⟨rfl, h1, h2⟩

theorem RRaw_ok (r bc : Nat) (l : List UInt8) (bad : Bool) (n : Nat) (w : World) (h : IsRd w r bc l bad) (hn : n ≤ l.length) :
    Calls Tryz.prog 89 #[P0 r, .int .i64 n] w fun e w' => ∃ v', e = .returned v' ∧ w'.ownsRow w.heap.size 5 1 v' n ((l.take n).map encB) ∧ IsRd w' r bc (l.drop n) bad ∧ Mod (only r) w w' := by
  obtain ⟨v, hh, hs, hne, hl, hcr⟩ := h
  have HS := Lib.hid hs
  obtain ⟨A, cap, rfl, hc1, hc2, hc3, hc4⟩ := hs
  have c0 : w.cell? ⟨r, 0, none⟩ = some (.slice A l.length cap) := cell_of_heap hh
  have f0 : w.frozen? ⟨r, 0, none⟩ = false := free_of_heap hh
  have H := Lib.hid hh
  unfold maxLen at hc2
  have hr := (Array.getElem?_eq_some_iff.1 hh).1
  clear hh
  have hlt : (l.take n).length = n := by simp; omega
  cases A with
  | none =>
    obtain ⟨rfl, h0⟩ := hc3 rfl
    obtain rfl : l = [] := by simpa using h0
    obtain rfl : n = 0 := by simpa using hn
    clear hc4 hc3 h0 hc2 hc1 hlt hne hl
    go_enter Tryz.func89, Tryz.ntmps89
    go_wp2_with (go_at_call 26; refine (bClone_any _ [] w (SlR.nil _ _) (by simp)).mono ?_; rintro e w' ⟨v', rfl, h1, h2, h3⟩; have c1 := h2.cell c0 (fun f => f); have f1 : w'.frozen? ⟨r, 0, none⟩ = false := free_of_heap (h2.heap H.out (fun f => f)))
    go_ret
    have hv : ∀ k, v'.ownBlock = some k → k ≠ r := fun k hk e => by have := (h1.lt k hk).1; omega
    exact ⟨v', rfl, owns_mod h1 ((Mod.refl (only r) w').put (only_self r) _) hv, ⟨_, heap_setCell_same (h2.heap H.out (fun f => f)) _, SlR.nil _ _, by simp [Value.ownBlock], by simp, hcr⟩,
      (h2.mono (fun _ _ f => f.elim)).put (only_self r) _⟩
  | some a =>
    obtain ⟨b, off, sp⟩ := a
    obtain rfl : sp = none := (hc4 _ rfl).1
    have HNE := Lib.hid hne
    clear hc4 hc3 hne
    go_enter Tryz.func89, Tryz.ntmps89
    go_wp2_with (go_at_call 26; refine (bClone_any _ (l.take n) w (SlR.take HS.out n hn) (by omega)).mono ?_; rintro e w' ⟨v', rfl, h1, h2, h3⟩; have c1 := h2.cell c0 (fun f => f); have f1 : w'.frozen? ⟨r, 0, none⟩ = false := free_of_heap (h2.heap H.out (fun f => f)))
    all_goals go_ret
    all_goals
      have hv : ∀ k, v'.ownBlock = some k → k ≠ r := fun k hk e => by have := (h1.lt k hk).1; omega
      have hbc : b = bc := HNE.out b rfl
      have hbr : b ≠ r := by rw [hbc]; exact hcr
      refine ⟨v', rfl, ?_, ⟨_, heap_setCell_same (h2.heap H.out (fun f => f)) _, ?_, fun j hj => (by simp [Value.ownBlock] at hj; rw [← hj]; exact hbc), by simp; omega, hcr⟩, (h2.mono (fun _ _ f => f.elim)).put (only_self r) _⟩
      · rw [hlt] at h1
        simpa using owns_mod h1 ((Mod.refl (only r) w').put (only_self r) _) hv
      · refine RowR.mod (w := w) ?_ ((h2.mono (fun _ _ f => f.elim)).put (only_self r) _ : Mod (only r) w _) (fun j hj => by simp [Value.ownBlock] at hj; subst hj; exact hbr)
        first
          | exact (SlR.drop HS.out n hn).1 (by assumption)
          | exact (SlR.drop HS.out n hn).2

structure RdB where
  p : List UInt8
  l : List UInt8
  bad : Bool

/-- A row of bytes with its length ahead. -/
def rdBytes (l : List UInt8) (bad : Bool) : RdB :=
  if (rdNum l bad).n ≤ (rdNum l bad).l.length then ⟨(rdNum l bad).l.take (rdNum l bad).n, (rdNum l bad).l.drop (rdNum l bad).n, (rdNum l bad).bad⟩ else ⟨[], [], true⟩

theorem RBytes_any (r bc : Nat) (l : List UInt8) (bad : Bool) (w : World) (h : IsRd w r bc l bad) :
    Calls Tryz.prog 66 #[P0 r] w fun e w' => ∃ v', e = .returned v' ∧ w'.ownsRow w.heap.size 5 1 v' (rdBytes l bad).p.length ((rdBytes l bad).p.map encB) ∧ IsRd w' r bc (rdBytes l bad).l (rdBytes l bad).bad ∧ Mod (only r) w w' := by
  have H := Lib.hid h
  clear h
  obtain ⟨q, hq⟩ : ∃ q, q = rdNum l bad := ⟨_, rfl⟩
  have HQ := Lib.hid hq
  clear hq
  by_cases hc : q.n ≤ q.l.length
  · go_enter Tryz.func66, Tryz.ntmps66
    go_wp2_with fail
    refine (RNum_any r bc l bad w H.out).mono ?_
    rintro e w1 ⟨rfl, h1, h2⟩
    rw [← HQ.out] at h1 ⊢
    have H1 := Lib.hid h1
    have H2 := Lib.hid h2
    clear h1 h2
    go_wp2_with fail
    refine (RRaw_ok r bc q.l q.bad q.n w1 H1.out hc).mono ?_
    rintro e w2 ⟨v', rfl, h3, h4, h5⟩
    have H3 := Lib.hid h3
    clear h3
    go_wp2_with fail
    go_ret
    have e1 : rdBytes l bad = ⟨q.l.take q.n, q.l.drop q.n, q.bad⟩ := by unfold rdBytes; rw [← HQ.out, if_pos hc]
    rw [e1]
    refine ⟨v', rfl, ?_, h4, H2.out.trans h5⟩
    have : (q.l.take q.n).length = q.n := by simp; omega
    simp only [this]
    exact owns_base H3.out H2.out.size
  · go_enter Tryz.func66, Tryz.ntmps66
    go_wp2_with fail
    refine (RNum_any r bc l bad w H.out).mono ?_
    rintro e w1 ⟨rfl, h1, h2⟩
    rw [← HQ.out] at h1 ⊢
    have H1 := Lib.hid h1
    have H2 := Lib.hid h2
    clear h1 h2
    go_wp2_with fail
    refine (RRaw_bad r bc q.l q.bad q.n w1 H1.out (by omega)).mono ?_
    rintro e w2 ⟨rfl, h4, h5⟩
    go_wp2_with fail
    go_ret
    have e1 : rdBytes l bad = ⟨[], [], true⟩ := by unfold rdBytes; rw [← HQ.out, if_neg hc]
    rw [e1]
    exact ⟨_, rfl, World.ownsRow_nil _ _ _ _, h4, H2.out.trans h5⟩

theorem RGood_any (r bc : Nat) (l : List UInt8) (bad : Bool) (w : World) (h : IsRd w r bc l bad) :
    Calls Tryz.prog 84 #[P0 r] w fun e w' => e = .returned (.bool (!bad)) ∧ w' = w := by
  obtain ⟨v, hh, -⟩ := h
  have c1 : w.cell? ⟨r, 1, none⟩ = some (.bool bad) := cell_of_heap hh
  clear hh
  go_enter Tryz.func84, Tryz.ntmps84
  go_wp2
  go_ret
  exact ⟨rfl, rfl⟩

theorem len_beq {α : Type} (l : List α) : ((l.length : Int) == 0) = (!false && l.isEmpty) := by
  cases l with
  | nil => rfl
  | cons a l => simp; omega

theorem RWhole_any (r bc : Nat) (l : List UInt8) (bad : Bool) (w : World) (h : IsRd w r bc l bad) :
    Calls Tryz.prog 67 #[P0 r] w fun e w' => e = .returned (.bool (!bad && l.isEmpty)) ∧ w' = w := by
  have H := Lib.hid h
  obtain ⟨v, hh, ⟨A, cap, rfl, -⟩, -⟩ := h
  have c0 : w.cell? ⟨r, 0, none⟩ = some _ := cell_of_heap hh
  clear hh
  cases bad
  · go_enter Tryz.func67, Tryz.ntmps67
    go_wp2_with (go_at_call 84; refine (RGood_any r bc l _ w H.out).mono ?_; rintro e w' ⟨rfl, rfl⟩)
    all_goals go_ret
    all_goals (refine ⟨?_, rfl⟩)
    exact congrArg (fun x => Ending.returned (.bool x)) (len_beq l)
  · go_enter Tryz.func67, Tryz.ntmps67
    go_wp2_with (go_at_call 84; refine (RGood_any r bc l _ w H.out).mono ?_; rintro e w' ⟨rfl, rfl⟩)
    go_ret
    exact ⟨rfl, rfl⟩
end Go.Proofs.YtbloppbiojopaaaGreatDoor
