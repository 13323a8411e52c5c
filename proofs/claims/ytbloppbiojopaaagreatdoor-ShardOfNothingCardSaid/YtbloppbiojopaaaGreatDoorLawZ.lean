/- ShardOfNothing: the walk. -/
import Derived.Test.YtbloppbiojopaaaGreatDoorLawK
import Derived.Test.YtbloppbiojopaaaGreatDoorNilS
import Derived.Test.YtbloppbiojopaaaGreatDoorOpF
set_option maxRecDepth 100000
namespace Go.Proofs.YtbloppbiojopaaaGreatDoor
open Go Go.RowKit

/-- make([]byte, m), and the text of it. -/
theorem zeroBytes (m : Nat) (h2 : m ≤ 100) (W : World) : (Instr.makeSlice 22 (.int .i64 (m : Int)) (.int .i64 (m : Int))).run Tryz.prog W = .ok (.slice (some ⟨W.heap.size, 0, none⟩) m m) (W.alloc (.cells (madeCells #[.int .u8 0] m) 5)) ∧
    (convert 22 9 (.slice (some ⟨W.heap.size, 0, none⟩) m m)).run Tryz.prog (W.alloc (.cells (madeCells #[.int .u8 0] m) 5)) = .ok (.string ⟨(List.replicate m 0).toArray⟩) (W.alloc (.cells (madeCells #[.int .u8 0] m) 5)) := by
  obtain ⟨i0, hi, hz0, hz1, hz2⟩ := info_parts (P := Tryz.prog) (e := 5) (z := .int .u8 0) (size := 1) (bytes := 1) (by kernel_rfl)
  constructor
  · have h := run_makeSlice (P := Tryz.prog) W 22 5 i0 (.int .u8 0) Tryz.underlying22 hi hz0 .i64 .i64 (m : Int) (m : Int) (by omega) (by omega) (by rw [hz1]; simp; omega) (by rw [hz2]; omega) (by omega)
    simpa [hz1, Value.cells] using h
  · refine bs_conv _ _ (List.replicate m 0) ?_
    have h := SlR.mk (w := W.alloc (.cells (madeCells #[.int .u8 0] m) 5)) (enc := encB) (b := W.heap.size) (off := 0) (n := m) (cap := m) (l := List.replicate m 0) (by simp) (Nat.le_refl _) (by unfold maxLen; omega) (by simp) (fun j u hu => by
      rw [Nat.zero_add, cell_of_heap (heap_alloc_new W _)]
      obtain ⟨hj, rfl⟩ := List.getElem?_eq_some_iff.1 hu
      have hj' : j < m := by simpa using hj
      rw [Array.getElem?_eq_getElem (by simpa [madeCells] using hj')]
      simp [madeCells, Nat.mod_one])
    exact h

set_option maxHeartbeats 4000000 in
theorem lawNothing_few (n : Int) (A : Option Addr) (l c : Nat) (m : Nat) (w : World) (h1 : l ≤ 1000) (h2 : m ≤ 100) (h3 : m < 1 ∨ 20 < m) (h4 : m < 1) :
    Calls Tryz.prog 4 #[.int .i64 n, .slice A l c, .int .i64 m] w fun e w' => e = .returned (.bool true) ∧ Mod no w w' := by
  have g1 : decide (1000 < (l : Int)) = false := by simp; omega
  have g2 : decide ((m : Int) < 0) = false := by simp
  have g3 : decide (100 < (m : Int)) = false := by simp; omega
  have g4 : decide ((m : Int) < 1) = true := by simp; omega
  clear h4
  have HZ := Lib.hid (fun W => zeroBytes m h2 W)
  have HH := Lib.hid h3
  clear h3
  go_enter Tryz.func4, Tryz.ntmps4
  go_wp2_with (first
    | (go_at_call 12; refine (shSkip_nil _ _).mono ?_; rintro e W ⟨rfl, hW⟩; rw [hW]; clear hW W)
    | (go_at_call 9; refine (shGet_nil _ _).mono ?_; rintro e W ⟨rfl, hW⟩; rw [hW]; clear hW W)
    | (go_at_call 13; refine (shFind_nil _ _ _ _).mono ?_; rintro e W ⟨rfl, hW⟩; rw [hW]; clear hW W)
    | (go_at_call 14; refine (shParts_nil _).mono ?_; rintro e W ⟨rfl, hW⟩; rw [hW]; clear hW W)
    | (go_at_call 15; refine (shOpen_nil _ _).mono ?_; rintro e W ⟨rfl, hW⟩; rw [hW]; clear hW W))
  refine (diskNew_ok 65536 w (by decide) (by decide)).mono ?_
  rintro e w1 ⟨d, mb, rfl, hd, -, -, hm⟩
  have HD := Lib.hid hd
  have HM := Lib.hid hm
  clear hd hm
  have hmk := (HZ.out w1).1
  have hcv := (HZ.out w1).2
  go_wp2_with fail
  have hma : Mod no w1 (w1.alloc (.cells (madeCells #[.int .u8 0] m) 5)) := (Mod.refl no w1).alloc _
  refine (shOpen_arg d ⟨Array.replicate m 0⟩ _ (by simpa [ByteArray.size] using HH.out)).mono ?_
  rintro e W ⟨rfl, hW⟩
  rw [hW]
  clear hW W
  have HM2 := Lib.hid (HM.out.trans hma)
  clear hma hmk hcv
  go_wp2_with (first
    | (go_at_call 7; refine (shApply_nil _ _ _ _ _).mono ?_; rintro e W ⟨rfl, hW⟩; rw [hW]; clear hW W)
    | (go_at_call 11; refine (shApplied_nil _).mono ?_; rintro e W ⟨rfl, hW⟩; rw [hW]; clear hW W)
    | (go_at_call 17; refine (shSnapshot_nil _).mono ?_; rintro e W ⟨rfl, hW⟩; rw [hW]; clear hW W)
    | (go_at_call 18; refine (shInstall_nil _ _ _ _ _).mono ?_; rintro e W ⟨rfl, hW⟩; rw [hW]; clear hW W)
    | (go_at_call 19; refine (shFlush_nil _).mono ?_; rintro e W ⟨rfl, hW⟩; rw [hW]; clear hW W))
  refine (lawKnown_ok _).mono ?_
  rintro e w3 ⟨rfl, hm3⟩
  have HM3 := Lib.hid (HM2.out.trans hm3)
  clear hm3
  go_wp2_with fail
  go_ret
  exact ⟨rfl, HM3.out⟩

set_option maxHeartbeats 4000000 in
theorem lawNothing_many (n : Int) (A : Option Addr) (l c : Nat) (m : Nat) (w : World) (h1 : l ≤ 1000) (h2 : m ≤ 100) (h3 : m < 1 ∨ 20 < m) (h4 : 20 < m) :
    Calls Tryz.prog 4 #[.int .i64 n, .slice A l c, .int .i64 m] w fun e w' => e = .returned (.bool true) ∧ Mod no w w' := by
  have g1 : decide (1000 < (l : Int)) = false := by simp; omega
  have g2 : decide ((m : Int) < 0) = false := by simp
  have g3 : decide (100 < (m : Int)) = false := by simp; omega
  have g4 : decide ((m : Int) < 1) = false := by simp; omega
  have g5 : decide (20 < (m : Int)) = true := by simp; omega
  clear h4
  have HZ := Lib.hid (fun W => zeroBytes m h2 W)
  have HH := Lib.hid h3
  clear h3
  go_enter Tryz.func4, Tryz.ntmps4
  go_wp2_with (first
    | (go_at_call 12; refine (shSkip_nil _ _).mono ?_; rintro e W ⟨rfl, hW⟩; rw [hW]; clear hW W)
    | (go_at_call 9; refine (shGet_nil _ _).mono ?_; rintro e W ⟨rfl, hW⟩; rw [hW]; clear hW W)
    | (go_at_call 13; refine (shFind_nil _ _ _ _).mono ?_; rintro e W ⟨rfl, hW⟩; rw [hW]; clear hW W)
    | (go_at_call 14; refine (shParts_nil _).mono ?_; rintro e W ⟨rfl, hW⟩; rw [hW]; clear hW W)
    | (go_at_call 15; refine (shOpen_nil _ _).mono ?_; rintro e W ⟨rfl, hW⟩; rw [hW]; clear hW W))
  refine (diskNew_ok 65536 w (by decide) (by decide)).mono ?_
  rintro e w1 ⟨d, mb, rfl, hd, -, -, hm⟩
  have HD := Lib.hid hd
  have HM := Lib.hid hm
  clear hd hm
  have hmk := (HZ.out w1).1
  have hcv := (HZ.out w1).2
  go_wp2_with fail
  have hma : Mod no w1 (w1.alloc (.cells (madeCells #[.int .u8 0] m) 5)) := (Mod.refl no w1).alloc _
  refine (shOpen_arg d ⟨Array.replicate m 0⟩ _ (by simpa [ByteArray.size] using HH.out)).mono ?_
  rintro e W ⟨rfl, hW⟩
  rw [hW]
  clear hW W
  have HM2 := Lib.hid (HM.out.trans hma)
  clear hma hmk hcv
  go_wp2_with (first
    | (go_at_call 7; refine (shApply_nil _ _ _ _ _).mono ?_; rintro e W ⟨rfl, hW⟩; rw [hW]; clear hW W)
    | (go_at_call 11; refine (shApplied_nil _).mono ?_; rintro e W ⟨rfl, hW⟩; rw [hW]; clear hW W)
    | (go_at_call 17; refine (shSnapshot_nil _).mono ?_; rintro e W ⟨rfl, hW⟩; rw [hW]; clear hW W)
    | (go_at_call 18; refine (shInstall_nil _ _ _ _ _).mono ?_; rintro e W ⟨rfl, hW⟩; rw [hW]; clear hW W)
    | (go_at_call 19; refine (shFlush_nil _).mono ?_; rintro e W ⟨rfl, hW⟩; rw [hW]; clear hW W))
  refine (lawKnown_ok _).mono ?_
  rintro e w3 ⟨rfl, hm3⟩
  have HM3 := Lib.hid (HM2.out.trans hm3)
  clear hm3
  go_wp2_with fail
  go_ret
  exact ⟨rfl, HM3.out⟩

set_option maxHeartbeats 4000000 in
theorem lawNothing_fit (n : Int) (A : Option Addr) (l c : Nat) (m : Nat) (w : World) (h1 : l ≤ 1000) (h2 : m ≤ 100) (h3 : 1 ≤ m ∧ m ≤ 20) :
    Calls Tryz.prog 4 #[.int .i64 n, .slice A l c, .int .i64 m] w fun e w' => e = .returned (.bool true) ∧ Mod no w w' := by
  have g1 : decide (1000 < (l : Int)) = false := by simp; omega
  have g2 : decide ((m : Int) < 0) = false := by simp
  have g3 : decide (100 < (m : Int)) = false := by simp; omega
  have g4 : decide ((m : Int) < 1) = false := by simp; omega
  have g5 : decide (20 < (m : Int)) = false := by simp; omega
  have HZ := Lib.hid (fun W => zeroBytes m h2 W)
  have HH := Lib.hid h3
  clear h3
  go_enter Tryz.func4, Tryz.ntmps4
  go_wp2_with (first
    | (go_at_call 12; refine (shSkip_nil _ _).mono ?_; rintro e W ⟨rfl, hW⟩; rw [hW]; clear hW W)
    | (go_at_call 9; refine (shGet_nil _ _).mono ?_; rintro e W ⟨rfl, hW⟩; rw [hW]; clear hW W)
    | (go_at_call 13; refine (shFind_nil _ _ _ _).mono ?_; rintro e W ⟨rfl, hW⟩; rw [hW]; clear hW W)
    | (go_at_call 14; refine (shParts_nil _).mono ?_; rintro e W ⟨rfl, hW⟩; rw [hW]; clear hW W)
    | (go_at_call 15; refine (shOpen_nil _ _).mono ?_; rintro e W ⟨rfl, hW⟩; rw [hW]; clear hW W))
  refine (diskNew_ok 65536 w (by decide) (by decide)).mono ?_
  rintro e w1 ⟨d, mb, rfl, hd, -, -, hm⟩
  have HD := Lib.hid hd
  have HM := Lib.hid hm
  clear hd hm
  have hmk := (HZ.out w1).1
  have hcv := (HZ.out w1).2
  go_wp2_with fail
  have hma : Mod no w1 (w1.alloc (.cells (madeCells #[.int .u8 0] m) 5)) := (Mod.refl no w1).alloc _
  refine (shOpen_ok d mb 65536 ⟨Array.replicate m 0⟩ _ (HD.out.mod hma (no_false _) (no_false _)) (by simpa [ByteArray.size] using HH.out.1) (by simpa [ByteArray.size] using HH.out.2)).mono ?_
  rintro e w2 ⟨a, rfl, -, -, hm2⟩
  have HM2 := Lib.hid ((HM.out.trans hma).trans hm2)
  clear hm2
  clear hma hmk hcv
  go_wp2_with (first
    | (go_at_call 7; refine (shApply_nil _ _ _ _ _).mono ?_; rintro e W ⟨rfl, hW⟩; rw [hW]; clear hW W)
    | (go_at_call 11; refine (shApplied_nil _).mono ?_; rintro e W ⟨rfl, hW⟩; rw [hW]; clear hW W)
    | (go_at_call 17; refine (shSnapshot_nil _).mono ?_; rintro e W ⟨rfl, hW⟩; rw [hW]; clear hW W)
    | (go_at_call 18; refine (shInstall_nil _ _ _ _ _).mono ?_; rintro e W ⟨rfl, hW⟩; rw [hW]; clear hW W)
    | (go_at_call 19; refine (shFlush_nil _).mono ?_; rintro e W ⟨rfl, hW⟩; rw [hW]; clear hW W))
  refine (lawKnown_ok _).mono ?_
  rintro e w3 ⟨rfl, hm3⟩
  have HM3 := Lib.hid (HM2.out.trans hm3)
  clear hm3
  go_wp2_with fail
  go_ret
  exact ⟨rfl, HM3.out⟩

theorem lawNothing_out1 (n : Int) (A : Option Addr) (l c : Nat) (m : Int) (w : World) (h : 1000 < l) :
    Calls Tryz.prog 4 #[.int .i64 n, .slice A l c, .int .i64 m] w fun e w' => e = .returned (.bool true) ∧ Mod no w w' := by
  have g1 : decide (1000 < (l : Int)) = true := by simp; omega
  clear h
  go_enter Tryz.func4, Tryz.ntmps4
  go_wp2_with fail
  go_ret
  exact ⟨rfl, Mod.refl no w⟩

theorem lawNothing_out2 (n : Int) (A : Option Addr) (l c : Nat) (m : Int) (w : World) (h : ¬ 1000 < l) (h2 : m < 0) :
    Calls Tryz.prog 4 #[.int .i64 n, .slice A l c, .int .i64 m] w fun e w' => e = .returned (.bool true) ∧ Mod no w w' := by
  have g1 : decide (1000 < (l : Int)) = false := by simp; omega
  have g2 : decide (m < 0) = true := by simp; omega
  clear h h2
  go_enter Tryz.func4, Tryz.ntmps4
  go_wp2_with fail
  go_ret
  exact ⟨rfl, Mod.refl no w⟩

theorem lawNothing_out3 (n : Int) (A : Option Addr) (l c : Nat) (m : Int) (w : World) (h : ¬ 1000 < l) (h3 : 100 < m) :
    Calls Tryz.prog 4 #[.int .i64 n, .slice A l c, .int .i64 m] w fun e w' => e = .returned (.bool true) ∧ Mod no w w' := by
  have g1 : decide (1000 < (l : Int)) = false := by simp; omega
  have g2 : decide (m < 0) = false := by simp; omega
  have g3 : decide (100 < m) = true := by simp; omega
  clear h h3
  go_enter Tryz.func4, Tryz.ntmps4
  go_wp2_with fail
  go_ret
  exact ⟨rfl, Mod.refl no w⟩

/-- SHARDOFNOTHING: for every input true; what was there is as it was. -/
theorem lawNothing_any (n : Int) (A : Option Addr) (l c : Nat) (m : Int) (w : World) :
    Calls Tryz.prog 4 #[.int .i64 n, .slice A l c, .int .i64 m] w fun e w' => e = .returned (.bool true) ∧ Mod no w w' := by
  by_cases h : 1000 < l
  · exact lawNothing_out1 n A l c m w h
  · by_cases h2 : m < 0
    · exact lawNothing_out2 n A l c m w h h2
    · by_cases h3 : 100 < m
      · exact lawNothing_out3 n A l c m w h h3
      · obtain ⟨k, rfl⟩ : ∃ k : Nat, m = k := ⟨m.toNat, by omega⟩
        by_cases h4 : k < 1
        · exact lawNothing_few n A l c k w (by omega) (by omega) (.inl h4) h4
        · by_cases h5 : 20 < k
          · exact lawNothing_many n A l c k w (by omega) (by omega) (.inr h5) h5
          · exact lawNothing_fit n A l c k w (by omega) (by omega) (by omega)
end Go.Proofs.YtbloppbiojopaaaGreatDoor
