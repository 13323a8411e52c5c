/- The document's disk and shard, over no file. -/
import Derived.Test.YtbloppbiojopaaaGreatDoorShE
set_option maxRecDepth 100000
namespace Go.Proofs.YtbloppbiojopaaaGreatDoor
open Go Go.RowKit

/-- The document's disk, without a file. -/
def RDiskE (w : World) (d : Nat) (room : Int) : Prop := w.heap[d]? = some (.cells #[.int .i64 room, .slice none 0 0, .int .i64 (-1)] 133 (0, 0))

theorem RDiskE.mod {w w' : World} {S : Nat → Prop} {d : Nat} {room : Int} (h : RDiskE w d room) (hm : Mod S w w') (h1 : ¬ S d) : RDiskE w' d room := hm.heap h h1

theorem r10New_ok (room : Int) (w : World) (h1 : 0 ≤ room) (h2 : room ≤ 1073741824) :
    Calls Tryz.prog 22 #[.int .i64 room] w fun e w' => ∃ d, e = .returned (.tuple #[P0 d, .int .i64 0]) ∧ RDiskE w' d room ∧ w.heap.size ≤ d ∧ Mod no w w' := by
  have h3 : decide (room < 0) = false := by simp; omega
  have h4 : decide (1073741824 < room) = false := by simp; omega
  go_enter Tryz.func22, Tryz.ntmps22
  go_wp2
  go_ret2
  exact ⟨w.heap.size, rfl, heap_alloc_new w _, Nat.le_refl _, (Mod.refl no w).alloc _⟩

theorem r10Spot_none (d : Nat) (room : Int) (name : ByteArray) (w : World) (h : RDiskE w d room) :
    Calls Tryz.prog 246 #[P0 d, .string name] w fun e w' => e = .returned (.tuple #[.int .i64 0, .bool false]) ∧ Mod no w w' := by
  have c1 := cell_of_heap (i := 1) h
  simp only [List.getElem?_toArray, List.getElem?_cons_zero, List.getElem?_cons_succ] at c1
  clear h
  go_enter Tryz.func246, Tryz.ntmps246
  go_wp2_with fail
  refine wp_loop_rounds 1 ?_
  rw [rounds_succ]
  go_wp2_with fail
  go_quiet (fail)
  go_wp2_with fail
  go_ret2
  exact ⟨rfl, (Mod.refl no w).drewN _⟩

theorem r10Read_none (d : Nat) (room : Int) (name : ByteArray) (w : World) (h : RDiskE w d room) :
    Calls Tryz.prog 184 #[P0 d, .string name] w fun e w' => e = .returned (.tuple #[.slice none 0 0, .int .i64 7]) ∧ Mod no w w' := by
  have H := Lib.hid h
  clear h
  go_enter Tryz.func184, Tryz.ntmps184
  go_wp2_with fail
  refine (r10Spot_none d room name w H.out).mono ?_
  rintro e w1 ⟨rfl, hm⟩
  have HM := Lib.hid hm
  clear hm
  go_wp2_with fail
  go_ret2
  exact ⟨rfl, HM.out⟩

theorem r11Load_none (d : Nat) (room : Int) (name : ByteArray) (w : World) (h : RDiskE w d room) :
    Calls Tryz.prog 117 #[P0 d, .string name] w fun e w' => e = .returned (.tuple #[.slice none 0 0, .int .i64 7]) ∧ Mod no w w' := by
  have H := Lib.hid h
  clear h
  go_enter Tryz.func117, Tryz.ntmps117
  go_wp2_with fail
  refine (r10Read_none d room name w H.out).mono ?_
  rintro e w1 ⟨rfl, hm⟩
  have HM := Lib.hid hm
  clear hm
  go_wp2_with fail
  go_ret2
  exact ⟨rfl, HM.out⟩

theorem r10List_none (d : Nat) (room : Int) (w : World) (h : RDiskE w d room) :
    Calls Tryz.prog 193 #[P0 d] w fun e w' => e = .returned (.slice none 0 0) ∧ Mod no w w' := by
  have c1 := cell_of_heap (i := 1) h
  simp only [List.getElem?_toArray, List.getElem?_cons_zero, List.getElem?_cons_succ] at c1
  clear h
  go_enter Tryz.func193, Tryz.ntmps193
  go_wp2_with fail
  refine wp_loop_rounds 1 ?_
  rw [rounds_succ]
  go_wp2_with fail
  go_ret
  exact ⟨rfl, Mod.refl no w⟩

theorem r11Clear_none (d : Nat) (room : Int) (pre : ByteArray) (vs : Value) (w : World) (h : RDiskE w d room) :
    Calls Tryz.prog 125 #[P0 d, .string pre, vs] w fun e w' => e = .returned (.int .i64 0) ∧ Mod no w w' := by
  have H := Lib.hid h
  clear h
  go_enter Tryz.func125, Tryz.ntmps125
  go_wp2_with fail
  refine (r10List_none d room w H.out).mono ?_
  rintro e w1 ⟨rfl, hm⟩
  have HM := Lib.hid hm
  clear hm
  go_wp2_with fail
  refine wp_loop_rounds 1 ?_
  rw [rounds_succ]
  go_wp2_with fail
  go_ret
  exact ⟨rfl, HM.out⟩

theorem r14List_any (s : Nat) (p : ByteArray) (w : World) (h : w.cell? ⟨s, 1, none⟩ = some (.string p)) (hp : p.size ≤ 1000) :
    Calls Tryz.prog 118 #[P0 s] w fun e w' => e = .returned (.string (p ++ ⟨#[45, 108, 105, 115, 116]⟩)) ∧ w' = w := by
  have h1 : ¬ 9223372036854775807 < p.size + 5 := by omega
  go_enter Tryz.func118, Tryz.ntmps118
  go_wp2
  go_ret
  exact ⟨rfl, rfl⟩

/-- The document's shard: empty. -/
def RShE (w : World) (x t d : Nat) (pre : ByteArray) : Prop :=
  w.heap[x]? = some (.cells #[P0 d, .string pre, P0 t, .slice none 0 0, .slice none 0 0, .int .i64 0, .int .i64 0, .int .i64 1] 207 (0, 0)) ∧ w.heap[t]? = some (.cells #[.slice none 0 0, .slice none 0 0] 203 (0, 0))

theorem r14Open_ok (d : Nat) (room : Int) (pre : ByteArray) (w : World) (h : RDiskE w d room) (h1 : 1 ≤ pre.size) (h2 : pre.size ≤ 20) :
    Calls Tryz.prog 63 #[P0 d, .string pre] w fun e w' => ∃ x t, e = .returned (.tuple #[P0 x, .int .i64 0]) ∧ RShE w' x t d pre ∧ w.heap.size ≤ x ∧ w.heap.size ≤ t ∧ Mod no w w' := by
  have H := Lib.hid h
  have h3 : ¬ ((pre.size : Int) < 1) := by omega
  have h4 : ¬ (20 < (pre.size : Int)) := by omega
  have h5 : ¬ 9223372036854775807 < pre.size + 1 := by omega
  clear h
  go_enter Tryz.func63, Tryz.ntmps63
  go_wp2_with fail
  obtain ⟨w1, hw1⟩ : ∃ w1, w1 = (w.alloc (.cells #[.slice none 0 0, .slice none 0 0] 203)).alloc (.cells #[P0 d, .string pre, P0 w.heap.size, .slice none 0 0, .slice none 0 0, .int .i64 0, .int .i64 0, .int .i64 1] 207) := ⟨_, rfl⟩
  have hm1 : Mod no w w1 := by rw [hw1]; exact ((Mod.refl no w).alloc _).alloc _
  have ht1 : w1.heap[w.heap.size]? = some (.cells #[.slice none 0 0, .slice none 0 0] 203 (0, 0)) := by rw [hw1]; exact heap_two w _ _
  have hx1 : w1.heap[w.heap.size + 1]? = some (.cells #[P0 d, .string pre, P0 w.heap.size, .slice none 0 0, .slice none 0 0, .int .i64 0, .int .i64 0, .int .i64 1] 207 (0, 0)) := by
    rw [hw1]; exact (congrArg (fun k => ((w.alloc _).alloc _).heap[k]?) (by simp)).trans (heap_alloc_new _ _)
  rw [← hw1]
  have c1 := cell_of_heap (i := 1) hx1
  simp only [List.getElem?_toArray, List.getElem?_cons_zero, List.getElem?_cons_succ] at c1
  have HM := Lib.hid hm1
  have HT := Lib.hid ht1
  have HX := Lib.hid hx1
  clear hw1 hm1 ht1 hx1
  refine (r14List_any (w.heap.size + 1) pre w1 c1 (by omega)).mono ?_
  rintro e W ⟨rfl, hW⟩
  rw [hW]
  clear hW W
  obtain ⟨nm, hnm⟩ : ∃ nm, nm = pre ++ ⟨#[45, 108, 105, 115, 116]⟩ := ⟨_, rfl⟩
  rw [← hnm]
  have HNM := Lib.hid hnm
  clear hnm
  go_wp2_with fail
  refine (r11Load_none d room nm w1 (H.out.mod HM.out (no_false _))).mono ?_
  rintro e w2 ⟨rfl, hm⟩
  have c2 := hm.cell c1 (no_false _)
  have HX2 := Lib.hid (hm.heap HX.out (no_false _))
  have HT2 := Lib.hid (hm.heap HT.out (no_false _))
  have HM2 := Lib.hid (HM.out.trans hm)
  clear hm c1 HX HT HM
  go_wp2_with fail
  refine (r14List_any (w.heap.size + 1) pre w2 c2 (by omega)).mono ?_
  rintro e W ⟨rfl, hW⟩
  rw [hW, ← HNM.out]
  clear hW W
  have hm3 := (Mod.refl no w2).alloc (.cells #[.string nm] 9)
  have hx3 := hm3.heap HX2.out (no_false _)
  have c5 := cell_of_heap (i := 5) hx3
  have c6 := cell_of_heap (i := 6) hx3
  have f6 := free_of_heap (i := 6) hx3
  simp only [List.getElem?_toArray, List.getElem?_cons_zero, List.getElem?_cons_succ] at c5 c6
  have HX3 := Lib.hid hx3
  have HT3 := Lib.hid (hm3.heap HT2.out (no_false _))
  have HM3 := Lib.hid (HM2.out.trans hm3)
  have hm2sz := HM2.out.size
  have hx2lt := (Array.getElem?_eq_some_iff.1 HX2.out).1
  clear hm3 hx3 c2
  go_wp2_with fail
  have p1 := (Mod.refl (only (w.heap.size + 1)) w2).put (i := 6) (only_self _) (.int .i64 0)
  have q1 := (Mod.refl no (w2.setCell ⟨w.heap.size + 1, 6, none⟩ (.int .i64 0))).alloc (.cells #[.string nm] 9)
  have hx4 := q1.heap (heap_setCell_same (i := 6) HX2.out (.int .i64 0)) (no_false _)
  have ht4 := q1.heap (p1.heap HT2.out (fun e => by unfold only at e; omega)) (no_false _)
  have hm4 : Mod no w _ := (HM2.out.andThen p1 (fun i hi h => by unfold only at h; omega)).trans q1
  refine (r11Clear_none d room _ _ _ (H.out.mod hm4 (no_false _))).mono ?_
  rintro e w5 ⟨rfl, hm5⟩
  have HX5 := Lib.hid (hm5.heap hx4 (no_false _))
  have HT5 := Lib.hid (hm5.heap ht4 (no_false _))
  have HM5 := Lib.hid (hm4.trans hm5)
  clear hx4 p1 q1 ht4 hm4 hm5 c5 c6 f6
  go_wp2_with fail
  go_ret2
  exact ⟨w.heap.size + 1, w.heap.size, rfl, ⟨HX5.out, HT5.out⟩, by omega, Nat.le_refl _, HM5.out⟩
end Go.Proofs.YtbloppbiojopaaaGreatDoor
