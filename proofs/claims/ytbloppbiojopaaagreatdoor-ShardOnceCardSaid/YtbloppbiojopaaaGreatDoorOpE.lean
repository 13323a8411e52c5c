/- Package op: replies as bytes. -/
import Derived.Test.YtbloppbiojopaaaGreatDoorOpD
set_option maxRecDepth 100000
namespace Go.Proofs.YtbloppbiojopaaaGreatDoor
open Go Go.RowKit

/-- A reply's bytes. -/
def repEnc (err : Int) (nums : List Int) : List UInt8 := numsEnc [err, nums.length] ++ numsEnc nums

theorem newWrAt (W : World) (b : Nat) (hb : b = W.heap.size) : IsWr (W.alloc (.cells #[.slice none 0 0] 108)) b (.slice none 0 0) [] := by
  subst hb; exact newWr W

/-- Where a Writer's buffer lies, that was begun behind w. -/
theorem WSt.bound {w0 w : World} {b : Nat} {l : List UInt8} (h : WSt w0 w b (.slice none 0 0) l) : ∃ v, IsWr w b v l ∧ Mod (fun j => j = b) w0 w ∧ ∀ j, v.ownBlock = some j → w0.heap.size ≤ j := by
  obtain ⟨v, h1, h2, h3⟩ := h
  refine ⟨v, h1, h2.mono (fun j _ h => (newWrF _ _).1 h), fun j hj => ?_⟩
  rcases h3 with h3 | ⟨i, h3, h4⟩
  · rw [hj] at h3; simp [Value.ownBlock] at h3
  · rw [hj] at h3; injection h3 with h3; omega

set_option maxHeartbeats 1000000 in
theorem opEncodeReply_any (err : Int) (vp : Value) (nums : List Int) (w : World) (hn : nums.length ≤ 8) (hp : SlR w encI vp nums) :
    Calls Tryz.prog 25 #[.agg #[.int .i64 err, vp]] w fun e w' => ∃ v, e = .returned v ∧ NewB w w' v (repEnc err nums) := by
  obtain ⟨A, cap, rfl, hp1, hp2, -⟩ := id hp
  have HP := Lib.hid hp
  unfold maxLen at hp2
  clear hp
  have hmin : min (nums.length : Int) 8 = nums.length := by omega
  go_enter Tryz.func25, Tryz.ntmps25
  go_wp2_with fail
  have hm1 : Mod no w (((w.alloc (.cells #[.int .i64 err, .slice A nums.length cap] 76)).alloc (.cells #[.slice none 0 0] 108)).alloc (.cells #[.int .i64 err, .int .i64 nums.length] 3)) := (((Mod.refl no w).alloc _).alloc _).alloc _
  have hwr := IsWr.mod (newWrAt (w.alloc (.cells #[.int .i64 err, .slice A nums.length cap] 76)) (w.heap.size + 1) (by simp)) ((Mod.refl no _).alloc (.cells #[.int .i64 err, .int .i64 nums.length] 3)) (fun f => f) (fun _ _ f => f)
  refine (WNums_any (w.heap.size + 1) (.slice none 0 0) _ [] [err, nums.length] _ hwr (RowR.madeAt _ [.int .i64 err, .int .i64 nums.length] 3 2 _ (by simp) (by omega)) (fun j hj => by rw [newWrF]; simp [Value.ownBlock] at hj; omega) (by simp)).mono ?_
  rintro e w1 ⟨rfl, h1⟩
  obtain ⟨v1, hw1, hm2, hv1⟩ := h1.bound
  have hsz := hm2.size
  simp at hsz
  have hv2 : ∀ j, v1.ownBlock = some j → w.heap.size + 2 < j ∧ j < w1.heap.size := fun j hj => by
    have h1 := hv1 j hj; have h2 := (hw1.2.1.lt j hj).2; simp at h1; omega
  have hm3 : Mod no w w1 := (hm1.mono (fun _ _ f => f.elim)).andThen hm2 (fun i hi h => by exfalso; omega)
  have HP1 := Lib.hid (RowR.mod HP.out hm3 (fun _ _ => no_false _))
  have HX : ∀ j, (Value.slice A nums.length cap).ownBlock = some j → ¬ WrF (w.heap.size + 1) v1 j := fun j hj hf => by
    have := RowR.lt HP.out j hj
    rcases hf with hf | hf
    · omega
    · have := hv2 j hf.symm; omega
  obtain ⟨L, hL⟩ : ∃ L, L = [] ++ numsEnc [err, (nums.length : Int)] := ⟨_, rfl⟩
  have hLl : L.length ≤ 18 := by have := numsEnc_len [err, (nums.length : Int)]; rw [hL]; simpa using this
  have hN := numsEnc_len nums
  rw [← hL] at hw1
  have HW1 := Lib.hid hw1
  have HX1 := Lib.hid HX
  have HL := Lib.hid hL
  have HM3 := Lib.hid hm3
  have HV2 := Lib.hid hv2
  clear hm1 hwr h1 hw1 hm2 hv1 hv2 HX hL hm3
  go_wp2_with fail
  refine (WNums_any (w.heap.size + 1) v1 _ L nums _ HW1.out HP1.out HX1.out (by omega)).mono ?_
  rintro e w2 ⟨rfl, v2, hw2, hm4, hv3⟩
  have HW2 := Lib.hid hw2
  have HM4 := Lib.hid hm4
  clear hw2 hm4 hv3
  go_wp2_with fail
  refine (WOut_any (w.heap.size + 1) v2 _ w2 HW2.out (by rw [List.length_append]; omega)).mono ?_
  rintro e w3 ⟨v', rfl, h5, h6⟩
  go_wp2_with fail
  go_ret
  have h8 : Mod no w w2 := HM3.out.andThen HM4.out (fun i hi h => by
    exfalso
    rcases h with h | h
    · omega
    · have := HV2.out i h.symm; omega)
  refine ⟨v', rfl, ?_, h8.trans h6⟩
  have : repEnc err nums = L ++ numsEnc nums := by rw [HL.out]; simp [repEnc]
  rw [this]
  exact owns_base h5 h8.size
end Go.Proofs.YtbloppbiojopaaaGreatDoor
