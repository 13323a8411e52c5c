/- Package shard: Open over a disk with no file; without a disk, or a prefix. -/
import Derived.Test.YtbloppbiojopaaaGreatDoorShD
import Derived.Test.YtbloppbiojopaaaGreatDoorDiskB
set_option maxRecDepth 100000
namespace Go.Proofs.YtbloppbiojopaaaGreatDoor
open Go Go.RowKit

theorem shOpen_ok (d mbd : Nat) (room : Int) (pre : ByteArray) (w : World) (h : DiskE w d mbd room) (h1 : 1 ≤ pre.size) (h2 : pre.size ≤ 20) :
    Calls Tryz.prog 15 #[P0 d, .string pre] w fun e w' => ∃ a : ShAt, e = .returned (.tuple #[P0 a.s, .int .i64 0]) ∧ ShR w' no a ⟨[], [], 0, 0, 1⟩ ∧ (w.heap.size ≤ a.s ∧ w.heap.size ≤ a.t ∧ w.heap.size ≤ a.mb ∧ w.heap.size ≤ a.sm) ∧ Mod no w w' := by
  have H := Lib.hid h
  have hmk := makeMap_eq
  have h3 : ¬ ((pre.size : Int) < 1) := by omega
  have h4 : ¬ (20 < (pre.size : Int)) := by omega
  clear h
  go_enter Tryz.func15, Tryz.ntmps15
  go_wp2_with fail
  refine (memNew_any w).mono ?_
  rintro e w1 ⟨t, mb, rfl, ht, ht1, ht2, hm1⟩
  have hlt := ht.lt
  have HT := Lib.hid ht
  have HM1 := Lib.hid hm1
  have hw1sz := hm1.size
  clear ht hm1
  go_wp2_with fail
  obtain ⟨w3, hw3⟩ : ∃ w3, w3 = (w1.alloc (.map #[] 0)).alloc (.cells #[.slice none 0 0, .int .i64 1, .int .i64 0, P0 d, .string pre, P0 t, .map (some w1.heap.size), .int .i64 0] 70) := ⟨_, rfl⟩
  have hm3 : Mod no w1 w3 := by rw [hw3]; exact ((Mod.refl no w1).alloc _).alloc _
  have hs3 : w3.heap[w1.heap.size + 1]? = some (.cells #[.slice none 0 0, .int .i64 1, .int .i64 0, P0 d, .string pre, P0 t, .map (some w1.heap.size), .int .i64 0] 70 (0, 0)) := by
    rw [hw3]; exact (congrArg (fun k => ((w1.alloc (.map #[] 0)).alloc _).heap[k]?) (by simp)).trans (heap_alloc_new _ _)
  have hmap : MapR w3 encI (fun v : Value => v) w1.heap.size [] := by
    rw [hw3]; exact MapR.mod (MapR.made _ _ w1 w1.heap.size rfl) ((Mod.refl no _).alloc _) (no_false _)
  have hS : ShR w3 no ⟨w1.heap.size + 1, t, mb, w1.heap.size, d, pre⟩ ⟨[], [], 0, 0, 1⟩ :=
    ⟨hs3, HT.out.mod hm3 (no_false _) (no_false _) (fun _ _ => no_false _), ⟨[], hmap, .nil⟩, ⟨by simp only []; omega, by simp only []; omega, by simp only []; omega, by simp only []; omega, by simp only []; omega⟩, ⟨no_false _, no_false _⟩, fun k hk => hk.elim⟩
  rw [← hw3]
  have c4 := cell_of_heap (i := 4) hs3
  simp only [List.getElem?_toArray, List.getElem?_cons_zero, List.getElem?_cons_succ] at c4
  have HS := Lib.hid hS
  have HM := Lib.hid (HM1.out.trans hm3)
  clear hw3 hm3 hs3 hmap hS HM1 HT
  refine (shFile_any (w1.heap.size + 1) pre _ w3 c4 (by omega) (by decide)).mono ?_
  rintro e W ⟨rfl, hW⟩
  rw [hW]
  clear hW W
  obtain ⟨nm, hnm⟩ : ∃ nm, nm = pre ++ ⟨#[45]⟩ ++ ⟨#[108, 105, 115, 116]⟩ := ⟨_, rfl⟩
  rw [← hnm]
  have HNM := Lib.hid hnm
  clear hnm
  go_wp2_with fail
  refine (keepLoad_none d mbd room nm w3 (H.out.mod HM.out (no_false _) (no_false _))).mono ?_
  rintro e W ⟨rfl, hW⟩
  rw [hW]
  clear hW W
  go_wp2_with fail
  refine (shFile_any (w1.heap.size + 1) pre _ w3 c4 (by omega) (by decide)).mono ?_
  rintro e W ⟨rfl, hW⟩
  rw [hW, ← HNM.out]
  clear hW W
  go_wp2_with fail
  have c4' := ((Mod.refl no w3).alloc (.cells #[.string nm] 9)).cell c4 (no_false _)
  have hm4 := (Mod.refl no w3).alloc (.cells #[.string nm] 9)
  have HM4 := Lib.hid (HM.out.trans hm4)
  have HS4 := Lib.hid (HS.out.mod0 hm4)
  clear hm4
  refine (shFile_any (w1.heap.size + 1) pre _ _ c4' (by omega) (by decide)).mono ?_
  rintro e W ⟨rfl, hW⟩
  rw [hW]
  clear hW W
  go_wp2_with fail
  refine (keepClear_none d mbd room _ _ _ (H.out.mod HM4.out (no_false _) (no_false _))).mono ?_
  rintro e w5 ⟨rfl, hm5⟩
  have HM5 := Lib.hid hm5
  clear hm5
  go_wp2_with fail
  go_ret2
  have hsz := HM.out.size
  exact ⟨⟨w1.heap.size + 1, t, mb, w1.heap.size, d, pre⟩, rfl, HS4.out.mod0 HM5.out, ⟨by simp only []; omega, ht1, ht2, by simp only []; omega⟩, HM4.out.trans HM5.out⟩
end Go.Proofs.YtbloppbiojopaaaGreatDoor
