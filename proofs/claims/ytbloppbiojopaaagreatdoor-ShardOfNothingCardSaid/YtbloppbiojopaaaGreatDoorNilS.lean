/- Package shard: a nil shard. -/
import Derived.Test.YtbloppbiojopaaaGreatDoorShE
set_option maxRecDepth 100000
namespace Go.Proofs.YtbloppbiojopaaaGreatDoor
open Go Go.RowKit

theorem shSkip_nil (n : Int) (w : World) : Calls Tryz.prog 12 #[.pointer none, .int .i64 n] w fun e w' => e = .returned (.tuple #[]) ∧ w' = w := by
  go_enter Tryz.func12, Tryz.ntmps12
  go_wp2
  go_end0
  exact ⟨rfl, rfl⟩
theorem shGet_nil (k : ByteArray) (w : World) : Calls Tryz.prog 9 #[.pointer none, .string k] w fun e w' => e = .returned (.tuple #[.slice none 0 0, .bool false]) ∧ w' = w := by
  go_enter Tryz.func9, Tryz.ntmps9
  go_wp2
  go_ret2
  exact ⟨rfl, rfl⟩
theorem shFind_nil (A : Option Addr) (l c : Nat) (w : World) : Calls Tryz.prog 13 #[.pointer none, .slice A l c] w fun e w' => e = .returned (.tuple #[.slice none 0 0, .int .i64 10]) ∧ w' = w := by
  go_enter Tryz.func13, Tryz.ntmps13
  go_wp2
  go_ret2
  exact ⟨rfl, rfl⟩
theorem shParts_nil (w : World) : Calls Tryz.prog 14 #[.pointer none] w fun e w' => e = .returned (.tuple #[.int .i64 0, .int .i64 0, .int .i64 0]) ∧ w' = w := by
  go_enter Tryz.func14, Tryz.ntmps14
  go_wp2
  go_ret3
  exact ⟨rfl, rfl⟩
theorem shOpen_nil (k : ByteArray) (w : World) : Calls Tryz.prog 15 #[.pointer none, .string k] w fun e w' => e = .returned (.tuple #[.pointer none, .int .i64 1]) ∧ w' = w := by
  go_enter Tryz.func15, Tryz.ntmps15
  go_wp2
  go_ret2
  exact ⟨rfl, rfl⟩
theorem shOpen_arg (d : Nat) (pre : ByteArray) (w : World) (h : pre.size < 1 ∨ 20 < pre.size) : Calls Tryz.prog 15 #[P0 d, .string pre] w fun e w' => e = .returned (.tuple #[.pointer none, .int .i64 1]) ∧ w' = w := by
  by_cases h1 : pre.size < 1
  · have g1 : decide ((pre.size : Int) < 1) = true := by simp; omega
    clear h h1
    go_enter Tryz.func15, Tryz.ntmps15
    go_wp2
    go_ret2
    exact ⟨rfl, rfl⟩
  · have g1 : decide ((pre.size : Int) < 1) = false := by simp; omega
    have g2 : decide (20 < (pre.size : Int)) = true := by simp; omega
    clear h h1
    go_enter Tryz.func15, Tryz.ntmps15
    go_wp2
    go_ret2
    exact ⟨rfl, rfl⟩
theorem shApply_nil (n : Int) (A : Option Addr) (l c : Nat) (w : World) : Calls Tryz.prog 7 #[.pointer none, .int .i64 n, .slice A l c] w fun e w' => e = .returned (.slice none 0 0) ∧ w' = w := by
  go_enter Tryz.func7, Tryz.ntmps7
  go_wp2
  go_ret
  exact ⟨rfl, rfl⟩
theorem shApplied_nil (w : World) : Calls Tryz.prog 11 #[.pointer none] w fun e w' => e = .returned (.int .i64 0) ∧ w' = w := by
  go_enter Tryz.func11, Tryz.ntmps11
  go_wp2
  go_ret
  exact ⟨rfl, rfl⟩
theorem shSnapshot_nil (w : World) : Calls Tryz.prog 17 #[.pointer none] w fun e w' => e = .returned (.slice none 0 0) ∧ w' = w := by
  go_enter Tryz.func17, Tryz.ntmps17
  go_wp2
  go_ret
  exact ⟨rfl, rfl⟩
theorem shInstall_nil (n : Int) (A : Option Addr) (l c : Nat) (w : World) : Calls Tryz.prog 18 #[.pointer none, .int .i64 n, .slice A l c] w fun e w' => e = .returned (.int .i64 1) ∧ w' = w := by
  go_enter Tryz.func18, Tryz.ntmps18
  go_wp2
  go_ret
  exact ⟨rfl, rfl⟩
theorem shFlush_nil (w : World) : Calls Tryz.prog 19 #[.pointer none] w fun e w' => e = .returned (.int .i64 1) ∧ w' = w := by
  go_enter Tryz.func19, Tryz.ntmps19
  go_wp2
  go_ret
  exact ⟨rfl, rfl⟩
end Go.Proofs.YtbloppbiojopaaaGreatDoor
