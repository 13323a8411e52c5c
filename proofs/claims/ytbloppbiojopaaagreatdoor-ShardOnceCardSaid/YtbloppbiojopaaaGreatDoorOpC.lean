/- Package op, and package haystackref13: an op as bytes, more. -/
import Derived.Test.YtbloppbiojopaaaGreatDoorOpB
set_option maxRecDepth 100000
namespace Go.Proofs.YtbloppbiojopaaaGreatDoor
open Go Go.RowKit

theorem newWr (W : World) : IsWr (W.alloc (.cells #[.slice none 0 0] 108)) W.heap.size (.slice none 0 0) [] :=
  ⟨heap_alloc_new W _, World.ownsRow_nil _ _ _ _, by simp [Value.ownBlock]⟩

theorem newWrF (b : Nat) (k : Nat) : WrF b (.slice none 0 0) k ↔ k = b := by simp [WrF, Value.ownBlock]

set_option maxHeartbeats 1000000 in
theorem opEncode_ok (kind client seq : Int) (k : ByteArray) (vt : Value) (text : List UInt8) (w : World) (hok : OpOk kind client seq k text) (ht : SlR w encB vt text) :
    Calls Tryz.prog 68 #[.agg #[.int .i64 kind, .int .i64 client, .int .i64 seq, .string k, vt]] w fun e w' => ∃ v, e = .returned (.tuple #[v, .int .i64 0]) ∧ NewB w w' v (opEnc kind client seq k text) := by
  obtain ⟨At, ct, rfl, ht1, ht2, -⟩ := id ht
  have HT := Lib.hid ht
  have HOK := Lib.hid hok
  have hlen := opEnc_len hok
  obtain ⟨hk, ⟨hc1, hc2⟩, ⟨hs1, hs2⟩, ⟨hk1, hk2⟩, htl, hg⟩ := hok
  have hk' : kind = 1 ∨ (kind = 2 ∧ text = []) := hk.imp id fun h => ⟨h, hg h⟩
  clear hg ht hk
  have hk3 : ((kind != 1) = false ∧ (kind == 2) = false) ∨ ((kind != 1) = true ∧ (kind != 2) = false ∧ (kind == 2) = true ∧ ¬ 0 < text.length) := by
    rcases hk' with rfl | ⟨rfl, h⟩
    · exact .inl ⟨rfl, rfl⟩
    · exact .inr ⟨rfl, rfl, rfl, by rw [h]; simp⟩
  clear hk'
  rcases hk3 with ⟨t1, t2⟩ | ⟨t1, t2, t3, t4⟩
  all_goals
    go_enter Tryz.func68, Tryz.ntmps68
    go_wp2_with (first
      | (go_at_call 126; refine (opWithin_any _ [client, seq] _ (RowR.madeAt _ [.int .i64 client, .int .i64 seq] 3 2 _ (by simp) (by omega)) (by simp; omega)).mono ?_; rintro e w' ⟨rfl, rfl⟩)
      | (go_at_call 127; fail))
    refine (opIsKey_any k _ hk1 hk2).mono ?_
    rintro e W ⟨rfl, hw⟩
    have hm : Mod no w W := by rw [hw]; exact ((Mod.refl no w).alloc _).alloc _
    have ho := congrArg (fun W => W.heap[w.heap.size]?) hw
    simp only [heap_two] at ho
    have hlt := (Array.getElem?_eq_some_iff.1 ho).1
    have HM := Lib.hid hm
    have HO := Lib.hid ho
    have c0 := cell_of_heap (i := 0) ho
    have c1 := cell_of_heap (i := 1) ho
    have c2 := cell_of_heap (i := 2) ho
    have c3 := cell_of_heap (i := 3) ho
    have c4 := cell_of_heap (i := 4) ho
    simp only [List.getElem?_toArray, List.getElem?_cons_zero, List.getElem?_cons_succ] at c0 c1 c2 c3 c4
    clear hw hm ho
    go_wp2_with fail
    have hm1 : Mod no W ((W.alloc (.cells #[.slice none 0 0] 108)).alloc (.cells #[.int .i64 kind, .int .i64 client, .int .i64 seq] 3)) := ((Mod.refl no W).alloc _).alloc _
    have hwr := IsWr.mod (newWr W) ((Mod.refl no _).alloc (.cells #[.int .i64 kind, .int .i64 client, .int .i64 seq] 3)) (fun f => f) (fun _ _ f => f)
    refine (WNums_any W.heap.size (.slice none 0 0) _ [] [kind, client, seq] _ hwr (RowR.madeAt _ [.int .i64 kind, .int .i64 client, .int .i64 seq] 3 3 _ (by simp) (by omega)) (fun j hj => ?_) (by simp)).mono ?_
    · rw [newWrF]; simp [Value.ownBlock] at hj; omega
    rintro e w1 ⟨rfl, h1⟩
    obtain ⟨v1, hw1, hm2, hv1⟩ := h1
    have hnf : ¬ WrF W.heap.size (.slice none 0 0) w.heap.size := by rw [newWrF]; omega
    have d3 := hm2.cell (hm1.cell c3 (no_false _)) hnf
    have d4 := hm2.cell (hm1.cell c4 (no_false _)) hnf
    have ht3 : SlR w1 encB (.slice At text.length ct) text := RowR.mod (RowR.mod (RowR.mod HT.out HM.out (fun _ _ => no_false _)) hm1 (fun _ _ => no_false _)) hm2 (fun j hj => by
      rw [newWrF]; have := RowR.lt HT.out j hj; omega)
    have HT3 := Lib.hid ht3
    have HW1 := Lib.hid hw1
    have HM2 : Hid (Mod (fun j => j = W.heap.size) w w1) := Lib.hid ((HM.out.mono (fun _ _ f => f.elim)).trans ((hm1.mono (fun _ _ f => f.elim)).trans (hm2.mono (fun j _ h => (newWrF _ _).1 h))))
    have hsz := hm2.size
    simp at hsz
    have HV1 := Lib.hid hv1
    clear hm1 hwr hw1 hm2 hv1 ht3 c0 c1 c2 c3 c4
    go_wp2_with (refine sb_law (o := ⟨some 49, _, _, _, _, _⟩) rfl rfl Tryz.underlying9 Tryz.underlying22 Tryz.underlying5 rfl (by unfold maxLen; omega) ?_; intro vb w2 g1 g2 g3; obtain ⟨Ab, cb, rfl, -⟩ := id g1; have d4' := g2.cell d4 (no_false _))
    have hbl := bytes_len k
    have g4 : (Value.slice Ab k.size cb).ownBlock = some w1.heap.size := by rw [hbl] at g3; exact g3
    have hwl : W.heap.size < w1.heap.size := by omega
    have hm4 : Mod no w1 (w2.alloc (.cells #[.slice Ab k.size cb, .slice At text.length ct] 22)) := g2.alloc _
    have hw2 := IsWr.mod HW1.out hm4 (no_false _) (fun _ _ => no_false _)
    have hrows : RowsR (w2.alloc (.cells #[.slice Ab k.size cb, .slice At text.length ct] 22)) (.slice (some ⟨w2.heap.size, 0, none⟩) 2 2) [.slice Ab k.size cb, .slice At text.length ct] [k.data.toList, text] := by
      refine ⟨RowR.madeAt w2 [.slice Ab k.size cb, .slice At text.length ct] 22 2 _ rfl (by omega), rfl, fun i v r hv hr => ?_⟩
      match i, hv, hr with
      | 0, hv, hr =>
        injection hv with hv; injection hr with hr; subst hv hr
        rw [hbl] at g1
        exact RowR.mod g1 ((Mod.refl no w2).alloc _) (fun _ _ => no_false _)
      | 1, hv, hr =>
        injection hv with hv; injection hr with hr; subst hv hr
        exact RowR.mod HT3.out hm4 (fun _ _ => no_false _)
    have hv1b : ∀ j, v1.ownBlock = some j → W.heap.size < j ∧ j < w1.heap.size := by
      intro j hj
      have h1 := (HW1.out.2.1.lt j hj).2
      rcases HV1.out with h | ⟨i, h, h2⟩
      · rw [hj] at h; simp [Value.ownBlock] at h
      · rw [hj] at h; injection h with h; simp at h2; exact ⟨by omega, h1⟩
    have hL : ([] ++ numsEnc [kind, client, seq]).length + (rowsEnc [k.data.toList, text]).length ≤ 1000000000 := by
      unfold opEnc at hlen; rw [List.length_append] at hlen; rw [List.nil_append]; omega
    have hsz2 := g2.size
    refine (WBytes_any W.heap.size v1 _ _ _ [k.data.toList, text] _ hw2 hrows ?_ ?_ hL).mono ?_
    · intro j hj hf
      simp [Value.ownBlock] at hj
      rcases hf with hf | hf
      · omega
      · have := (hv1b j hf.symm).2; omega
    · intro u hu j hj hf
      have hj2 : j = w1.heap.size ∨ j < w.heap.size := by
        rcases List.mem_cons.1 hu with rfl | hu
        · rw [g4] at hj; injection hj with hj; exact .inl hj.symm
        · rcases List.mem_cons.1 hu with rfl | hu
          · exact .inr (RowR.lt HT.out j hj)
          · cases hu
      rcases hf with hf | hf
      · omega
      · have := hv1b j hf.symm; omega
    rintro e w3 ⟨rfl, h3⟩
    obtain ⟨v2, hw3, hm5, hv2⟩ := h3
    have HW3 := Lib.hid hw3
    have HM5 := Lib.hid hm5
    have HV1B := Lib.hid hv1b
    have HG2 := Lib.hid g2
    clear hw2 hrows hm4 hw3 hm5 hv2 hv1b g1 g2 g3 g4 d3 d4 d4'
    go_wp2_with fail
    refine (WOut_any W.heap.size v2 _ w3 HW3.out (by have := hlen; unfold opEnc at this; rw [List.length_append] at this; rw [List.nil_append, List.length_append]; omega)).mono ?_
    rintro e w4 ⟨v', rfl, h5, h6⟩
    go_wp2_with fail
    go_ret2
    have h7 : Mod no w w1 := HM2.out.mono (fun i hi h => by exfalso; omega)
    have h8 : Mod no w w3 := (h7.trans (HG2.out.alloc _)).andThen HM5.out (fun i hi h => by
      exfalso
      rcases h with h | h
      · omega
      · have := HV1B.out i h.symm; omega)
    refine ⟨v', rfl, ?_, h8.trans h6⟩
    have : opEnc kind client seq k text = [] ++ numsEnc [kind, client, seq] ++ rowsEnc [k.data.toList, text] := by simp [opEnc]
    rw [this]
    exact owns_base h5 h8.size
end Go.Proofs.YtbloppbiojopaaaGreatDoor
