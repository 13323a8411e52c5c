/- The law: open, start, put. -/
import Derived.Test.YtbloppbiojopaaaGreatDoorRefE
set_option maxRecDepth 100000
namespace Go.Proofs.YtbloppbiojopaaaGreatDoor
open Go Go.RowKit

/-- A pair over empty disks. -/
def PairE (w : World) (p : Nat) (a : ShAt) : Prop :=
  ∃ vd vw vx, w.heap[p]? = some (.cells #[vd, vw, P0 a.s, vx] 32 (0, 0))

theorem lawOpen_ok (p d mbd wd : Nat) (room room2 : Int) (w : World) (hp : w.heap[p]? = some (.cells #[P0 d, P0 wd, .pointer none, .pointer none] 32 (0, 0))) (h : DiskE w d mbd room) (h2 : RDiskE w wd room2) :
    Calls Tryz.prog 23 #[P0 p] w fun e w' => ∃ a : ShAt, e = .returned (.bool true) ∧ ShR w' no a ⟨[], [], 0, 0, 1⟩ ∧ (w.heap.size ≤ a.s ∧ w.heap.size ≤ a.t ∧ w.heap.size ≤ a.mb ∧ w.heap.size ≤ a.sm) ∧ PairE w' p a ∧ Mod (only p) w w' := by
  have H := Lib.hid h
  have H2 := Lib.hid h2
  have HP := Lib.hid hp
  have hplt := (Array.getElem?_eq_some_iff.1 hp).1
  have c0 := cell_of_heap (i := 0) hp
  simp only [List.getElem?_toArray, List.getElem?_cons_zero] at c0
  clear h h2 hp
  go_enter Tryz.func23, Tryz.ntmps23
  go_wp2_with fail
  refine (shOpen_ok d mbd room _ w H.out (by decide) (by decide)).mono ?_
  rintro e w1 ⟨a, rfl, hs, hb, hm⟩
  have HS := Lib.hid hs
  have HM := Lib.hid hm
  have HP1 := Lib.hid (hm.heap HP.out (no_false _))
  clear hs hm c0
  have c1 := cell_of_heap (i := 1) HP1.out
  simp only [List.getElem?_toArray, List.getElem?_cons_zero, List.getElem?_cons_succ] at c1
  go_wp2_with fail
  refine (r14Open_ok wd room2 _ w1 (H2.out.mod HM.out (no_false _)) (by decide) (by decide)).mono ?_
  rintro e w2 ⟨x, t, rfl, -, hx1, -, hm2⟩
  have HS2 := Lib.hid (HS.out.mod0 hm2)
  have HM2 := Lib.hid (HM.out.trans hm2)
  have hp2 := hm2.heap HP1.out (no_false _)
  have HP2 := Lib.hid hp2
  have f2 := free_of_heap (i := 2) hp2
  have f3 := free_of_heap (i := 3) hp2
  have e2 := cell_of_heap (i := 2) hp2
  have e3 := cell_of_heap (i := 3) hp2
  simp only [List.getElem?_toArray, List.getElem?_cons_zero, List.getElem?_cons_succ] at e2 e3
  clear hm2 hp2 c1 HS HM HP1
  go_wp2_with fail
  go_ret
  have p1 := ((Mod.refl (only p) w2).put (i := 2) (only_self _) (P0 a.s)).put (i := 3) (only_self _) (P0 x)
  refine ⟨a, rfl, HS2.out.mod p1 ?_, hb, ⟨P0 d, P0 wd, P0 x, heap_setCell_same (heap_setCell_same HP2.out _) _⟩, (HM2.out.mono fun _ _ f => f.elim).trans p1⟩
  intro k hk e
  unfold only at e
  rcases hk with hk | hk | hk | hk | hk
  · omega
  · omega
  · omega
  · omega
  · exact hk

theorem lawStart_ok (room : Int) (w : World) (h1 : 0 ≤ room) (h2 : room ≤ 1073741824) :
    Calls Tryz.prog 6 #[.int .i64 room] w fun e w' => ∃ p a, e = .returned (.tuple #[P0 p, .bool true]) ∧ ShR w' no a ⟨[], [], 0, 0, 1⟩ ∧ (w.heap.size ≤ p ∧ p < a.s ∧ p < a.t ∧ p < a.mb ∧ p < a.sm) ∧ PairE w' p a ∧ Mod no w w' := by
  go_enter Tryz.func6, Tryz.ntmps6
  go_wp2_with fail
  refine (diskNew_ok room w h1 h2).mono ?_
  rintro e w1 ⟨d, mb, rfl, hd, -, -, hm⟩
  have HD := Lib.hid hd
  have HM := Lib.hid hm
  clear hd hm
  go_wp2_with fail
  refine (r10New_ok room w1 h1 h2).mono ?_
  rintro e w2 ⟨d2, rfl, hd2, -, hm2⟩
  have HD1 := Lib.hid (HD.out.mod hm2 (no_false _) (no_false _))
  have HD2 := Lib.hid hd2
  have HM2 := Lib.hid (HM.out.trans hm2)
  clear hd2 hm2 HD HM
  go_wp2_with fail
  have hm3 := (Mod.refl no w2).alloc (.cells #[P0 d, P0 d2, .pointer none, .pointer none] 32)
  refine (lawOpen_ok w2.heap.size d mb d2 room room _ (heap_alloc_new w2 _) (HD1.out.mod hm3 (no_false _) (no_false _)) (HD2.out.mod hm3 (no_false _))).mono ?_
  rintro e w4 ⟨a, rfl, hs, hb, hp, hm4⟩
  have hsz := HM2.out.size
  have HS := Lib.hid hs
  have HP := Lib.hid hp
  have HM4 : Hid (Mod no w w4) := Lib.hid ((HM2.out.trans hm3).andThen hm4 (fun i hi h => by unfold only at h; omega))
  simp only [World.size_alloc] at hb
  clear hs hp hm3 hm4
  go_wp2_with fail
  go_ret2
  exact ⟨w2.heap.size, a, rfl, HS.out, ⟨hsz, by omega, by omega, by omega, by omega⟩, HP.out, HM4.out⟩

theorem lawPut_ok (kind client seq : Int) (k : ByteArray) (vt : Value) (text : List UInt8) (w : World) (hok : OpOk kind client seq k text) (ht : SlR w encB vt text) :
    Calls Tryz.prog 8 #[.int .i64 kind, .int .i64 client, .int .i64 seq, .string k, vt] w fun e w' => ∃ v, e = .returned v ∧ NewB w w' v (opEnc kind client seq k text) := by
  obtain ⟨At, ct, rfl, -⟩ := id ht
  have HT := Lib.hid ht
  have HOK := Lib.hid hok
  clear ht hok
  go_enter Tryz.func8, Tryz.ntmps8
  go_wp2_with fail
  refine (r13Encode_ok kind client seq k _ text w HOK.out HT.out).mono ?_
  rintro e w1 ⟨v, rfl, hn⟩
  have HN := Lib.hid hn
  clear hn
  go_wp2_with fail
  go_ret
  exact ⟨v, rfl, HN.out⟩
end Go.Proofs.YtbloppbiojopaaaGreatDoor
