/- Package shard: the order of places. -/
import Derived.Test.YtbloppbiojopaaaGreatDoorLay
import Derived.Test.YtbloppbiojopaaaGreatDoorCmp
import Derived.Test.YtbloppbiojopaaaGreatDoorCmpS
import Derived.Test.YtbloppbiojopaaaGreatDoorMemG
import Derived.Deep.RegionHeld3
import Derived.Deep.CutRange
set_option maxRecDepth 100000
namespace Go.Proofs.YtbloppbiojopaaaGreatDoor
open Go Go.RowKit Go.Shelf Go.Lib Go.Sort

/-- The order of two places. -/
def matCmp (x y : List UInt8 × Nat) : Int := if Lib.compareBytes x.1 y.1 = 0 then (if (x.2 : Int) < y.2 then -1 else if (y.2 : Int) < x.2 then 1 else 0) else Lib.compareBytes x.1 y.1

theorem grow_two (W : World) (o1 o2 o3 : Obj) : ((((W.alloc o1).alloc o2).drew).alloc o3) = grow (W.drewN 1) #[o1, o2, o3] := by
  rw [alloc_eq_grow, alloc_eq_grow, alloc_eq_grow, grow_grow]
  show grow (grow (W.drewN 1) (#[o1] ++ #[o2])) #[o3] = _
  rw [grow_grow]
  rfl

set_option maxHeartbeats 1000000 in
theorem shFind1_any (x y : List UInt8 × Nat) (W : World) :
    Calls Tryz.prog 35 #[.agg #[encStr x.1, .int .i64 x.2], .agg #[encStr y.1, .int .i64 y.2]] W fun e w' => e = .returned (.int .i64 (matCmp x y)) ∧ ∃ q os', w' = grow (W.drewN q) os' := by
  obtain ⟨x1, x2⟩ := x
  obtain ⟨y1, y2⟩ := y
  obtain ⟨c1, hc1⟩ : ∃ c, c = Lib.compareBytes x1 y1 := ⟨_, rfl⟩
  obtain ⟨c2, hc2⟩ : ∃ c : Int, c = if (x2 : Int) < y2 then -1 else if (y2 : Int) < x2 then 1 else 0 := ⟨_, rfl⟩
  have hm : matCmp (x1, x2) (y1, y2) = if c1 = 0 then c2 else c1 := by rw [hc1, hc2]; rfl
  obtain ⟨c3, hc3⟩ : ∃ c : Int, c = if c1 = 0 then c2 else c1 := ⟨_, rfl⟩
  rw [hm, ← hc3]
  have HC3 := Lib.hid hc3
  clear hc3
  have HC1 := Lib.hid hc1
  have HC2 := Lib.hid hc2
  clear hm hc1 hc2
  go_enter Tryz.func35, Tryz.ntmps35
  go_wp2_with fail
  obtain ⟨w2, hw2⟩ : ∃ w2, w2 = (W.alloc (.cells #[encStr x1, .int .i64 x2] 61)).alloc (.cells #[encStr y1, .int .i64 y2] 61) := ⟨_, rfl⟩
  have k1 : w2.heap[W.heap.size]? = some (.cells #[encStr x1, .int .i64 x2] 61 (0, 0)) := by rw [hw2]; exact heap_two' W _ _
  have k2 : w2.heap[W.heap.size + 1]? = some (.cells #[encStr y1, .int .i64 y2] 61 (0, 0)) := by rw [hw2]; exact heap_two2 W _ _
  rw [← hw2]
  have a0 := cell_of_heap (i := 0) k1
  have a1 := cell_of_heap (i := 1) k1
  have b0 := cell_of_heap (i := 0) k2
  have b1 := cell_of_heap (i := 1) k2
  simp only [List.getElem?_toArray, List.getElem?_cons_zero, List.getElem?_cons_succ] at a0 a1 b0 b1
  have hk : ∀ V, Mod no w2 V → (V.cell? ⟨W.heap.size, 0, none⟩ = some (encStr x1) ∧ V.cell? ⟨W.heap.size, 1, none⟩ = some (.int .i64 x2) ∧ V.cell? ⟨W.heap.size + 1, 0, none⟩ = some (encStr y1) ∧ V.cell? ⟨W.heap.size + 1, 1, none⟩ = some (.int .i64 y2)) :=
    fun V hV => ⟨hV.cell a0 (no_false _), hV.cell a1 (no_false _), hV.cell b0 (no_false _), hV.cell b1 (no_false _)⟩
  have HK := Lib.hid hk
  have HW := Lib.hid hw2
  clear hk hw2 k1 k2 a0 a1 b0 b1
  go_region_held3 (fun V => V.cell? ⟨W.heap.size, 0, none⟩ = some (encStr x1) ∧ V.cell? ⟨W.heap.size, 1, none⟩ = some (.int .i64 x2) ∧ V.cell? ⟨W.heap.size + 1, 0, none⟩ = some (encStr y1) ∧ V.cell? ⟨W.heap.size + 1, 1, none⟩ = some (.int .i64 y2)) (first | exact HK.out _ (Mod.refl no w2).drew | exact HK.out _ ((Mod.refl no w2).drew.alloc _)) (first
    | (go_at_call 37; refine (strCompare_any _ _ _).mono ?_; rintro e V ⟨rfl, hV⟩; rw [hV, ← HC1.out]; clear hV V)
    | (go_at_call 38; refine (cmpInt_any _ _ _).mono ?_; rintro e V ⟨rfl, hV⟩; rw [hV, ← HC2.out]; clear hV V)
    | (go_at_call 36; refine (cmpOr_two _ c1 c2 _ (RowR.madeAt w2.drew [.int .i64 c1, .int .i64 c2] 3 2 _ rfl (by omega))).mono ?_; rintro e V ⟨rfl, hV⟩; rw [hV, ← HC3.out]; clear hV V))
  all_goals
    go_wp2_with fail
    go_ret
    exact ⟨rfl, 1, _, by rw [HW.out]; exact grow_two _ _ _ _⟩

theorem matCmpLays (blk off size : Nat) (w : World) : CmpLays Tryz.prog 35 #[] encM 2 matCmp blk off size w :=
  fun _ _ _ _ x y => shFind1_any x y _

end Go.Proofs.YtbloppbiojopaaaGreatDoor
