/- cmp.Or, cmp.Compare at ints. -/
import Derived.Test.YtbloppbiojopaaaGreatDoorRef1
set_option maxRecDepth 100000
namespace Go.Proofs.YtbloppbiojopaaaGreatDoor
open Go Go.RowKit

theorem cmpNaN_any (x : Int) (w : World) : Calls Tryz.prog 81 #[.int .i64 x] w fun e w' => e = .returned (.bool false) ∧ w' = w := by
  go_enter Tryz.func81, Tryz.ntmps81
  go_wp2
  go_ret
  exact ⟨by simp, rfl⟩

theorem cmpInt_any (x y : Int) (w : World) : Calls Tryz.prog 38 #[.int .i64 x, .int .i64 y] w fun e w' => e = .returned (.int .i64 (if x < y then -1 else if y < x then 1 else 0)) ∧ w' = w := by
  rcases Int.lt_trichotomy x y with h | h | h
  · have h1 : ¬ y < x := by omega
    go_enter Tryz.func38, Tryz.ntmps38
    go_wp2_with (go_at_call 81; refine (cmpNaN_any _ w).mono ?_; rintro e W ⟨rfl, hW⟩; rw [hW]; clear hW W)
    go_ret
    exact ⟨rfl, rfl⟩
  · subst h
    go_enter Tryz.func38, Tryz.ntmps38
    go_wp2_with (go_at_call 81; refine (cmpNaN_any _ w).mono ?_; rintro e W ⟨rfl, hW⟩; rw [hW]; clear hW W)
    go_ret
    exact ⟨rfl, rfl⟩
  · have h1 : ¬ x < y := by omega
    go_enter Tryz.func38, Tryz.ntmps38
    go_wp2_with (go_at_call 81; refine (cmpNaN_any _ w).mono ?_; rintro e W ⟨rfl, hW⟩; rw [hW]; clear hW W)
    go_ret
    exact ⟨rfl, rfl⟩

theorem cmpOr_two (va : Value) (x y : Int) (w : World) (h : SlR w encI va [x, y]) : Calls Tryz.prog 36 #[va] w fun e w' => e = .returned (.int .i64 (if x = 0 then y else x)) ∧ w' = w := by
  obtain ⟨A, cap, rfl, -⟩ := id h
  obtain ⟨b, off, rfl, hc0⟩ := RowR.pos h (k := 0) (by simp)
  obtain ⟨b', off', e1, hc1⟩ := RowR.pos h (k := 1) (by simp)
  injection e1 with e1
  injection e1 with e1 e2
  subst e1 e2
  simp only [List.length_cons, List.length_nil, Nat.add_zero, List.getElem_cons_zero, List.getElem_cons_succ] at hc0 hc1 ⊢
  clear h
  by_cases hx : x = 0
  · subst hx
    by_cases hy : y = 0
    · subst hy
      go_enter Tryz.func36, Tryz.ntmps36
      go_wp2
      refine wp_loop_rounds 3 ?_
      rw [rounds_succ]
      go_wp2_with fail
      rw [rounds_succ]
      go_wp2_with fail
      rw [rounds_succ]
      go_wp2_with fail
      go_ret
      exact ⟨rfl, rfl⟩
    · have h2 : (y != 0) = true := by simpa using hy
      clear hy
      go_enter Tryz.func36, Tryz.ntmps36
      go_wp2
      refine wp_loop_rounds 3 ?_
      rw [rounds_succ]
      go_wp2_with fail
      rw [rounds_succ]
      go_wp2_with fail
      go_ret
      exact ⟨rfl, rfl⟩
  · have h2 : (x != 0) = true := by simpa using hx
    have HX := Lib.hid hx
    clear hx
    go_enter Tryz.func36, Tryz.ntmps36
    go_wp2
    refine wp_loop_rounds 3 ?_
    rw [rounds_succ]
    go_wp2_with fail
    go_ret
    exact ⟨rfl, rfl⟩
end Go.Proofs.YtbloppbiojopaaaGreatDoor
