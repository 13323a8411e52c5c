/- Package disk: List of a disk with no file; package keep: Clear of it. -/
import Derived.Test.YtbloppbiojopaaaGreatDoorDiskA
import Derived.Test.YtbloppbiojopaaaGreatDoorKeysA
set_option maxRecDepth 100000
namespace Go.Proofs.YtbloppbiojopaaaGreatDoor
open Go Go.RowKit

theorem diskList_none (d mb : Nat) (room : Int) (w : World) (h : DiskE w d mb room) :
    Calls Tryz.prog 93 #[P0 d] w fun e w' => e = .returned (.slice none 0 0) ∧ Mod no w w' := by
  have H := Lib.hid h
  have c1 := cell_of_heap (i := 1) h.1
  simp only [List.getElem?_toArray, List.getElem?_cons_zero, List.getElem?_cons_succ] at c1
  clear h
  go_enter Tryz.func93, Tryz.ntmps93
  go_wp2_with fail
  refine (keysF_any (some mb) w).mono ?_
  rintro e w1 ⟨rfl, hw1⟩
  have hm1 : Mod no w w1 := by rw [hw1]; exact (Mod.refl no w).alloc _
  have hc1 : w1.cell? ⟨w.heap.size, 0, none⟩ = some (.map (some mb)) := by rw [hw1]; exact cell_of_heap (heap_alloc_new w _)
  have hl1 : w.heap.size < w1.heap.size := by rw [hw1]; simp
  have HC1 := Lib.hid hc1
  have HM1 := Lib.hid hm1
  clear hw1 hm1 hc1
  go_wp2_with fail
  refine (sortedF_any (fun v : Value => v) w.heap.size mb [] w1 (H.out.2.mod HM1.out (no_false _)) HC1.out hl1 (by simp) (by simp) (by simp)).mono ?_
  rintro e w2 ⟨v, rfl, hv⟩
  obtain rfl : v = .slice none 0 0 := hv.2.1.2 rfl
  have HV := Lib.hid hv.2.2
  clear hv
  go_wp2_with fail
  go_ret
  exact ⟨rfl, HM1.out.trans HV.out⟩

theorem keepClear_none (d mb : Nat) (room : Int) (pre : ByteArray) (vs : Value) (w : World) (h : DiskE w d mb room) :
    Calls Tryz.prog 45 #[P0 d, .string pre, vs] w fun e w' => e = .returned (.int .i64 0) ∧ Mod no w w' := by
  have H := Lib.hid h
  clear h
  go_enter Tryz.func45, Tryz.ntmps45
  go_wp2_with fail
  refine (diskList_none d mb room w H.out).mono ?_
  rintro e w1 ⟨rfl, hm1⟩
  have HM1 := Lib.hid hm1
  clear hm1
  go_wp2_with fail
  refine wp_loop_rounds 1 ?_
  rw [rounds_succ]
  go_wp2_with fail
  go_ret
  exact ⟨rfl, HM1.out⟩
end Go.Proofs.YtbloppbiojopaaaGreatDoor
