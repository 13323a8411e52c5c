/- Package haystackref13: an op as bytes. -/
import Derived.Test.YtbloppbiojopaaaGreatDoorOpC
set_option maxRecDepth 100000
namespace Go.Proofs.YtbloppbiojopaaaGreatDoor
open Go Go.RowKit

theorem NewB.from {w w1 w' : World} {v : Value} {l : List UInt8} (hm : Mod no w w1) (h : NewB w1 w' v l) : NewB w w' v l := ⟨owns_base h.1 hm.size, hm.trans h.2⟩

set_option maxHeartbeats 1000000 in
theorem r13Encode_ok (kind client seq : Int) (k : ByteArray) (vt : Value) (text : List UInt8) (w : World) (hok : OpOk kind client seq k text) (ht : SlR w encB vt text) :
    Calls Tryz.prog 20 #[.agg #[.int .i64 kind, .int .i64 client, .int .i64 seq, .string k, vt]] w fun e w' => ∃ v, e = .returned (.tuple #[v, .int .i64 0]) ∧ NewB w w' v (opEnc kind client seq k text) := by
  obtain ⟨At, ct, rfl, ht1, ht2, -⟩ := id ht
  have HT := Lib.hid ht
  have HOK := Lib.hid hok
  have hlen := opEnc_len hok
  obtain ⟨hk, ⟨hc1, hc2⟩, ⟨hs1, hs2⟩, ⟨hk1, hk2⟩, htl, hg⟩ := hok
  have hk' : kind = 1 ∨ (kind = 2 ∧ text = []) := hk.imp id fun h => ⟨h, hg h⟩
  clear hg ht hk
  have hk3 : ((kind != 1) = false ∧ (kind == 2) = false) ∨ ((kind != 1) = true ∧ (kind != 2) = false ∧ (kind == 2) = true ∧ ¬ 0 < text.length) := by
    rcases hk' with rfl | ⟨rfl, h⟩
    · exact .inl ⟨rfl, rfl⟩
    · exact .inr ⟨rfl, rfl, rfl, by rw [h]; simp⟩
  have HKB : Hid (kind ≤ 9223372036854775807) := Lib.hid (by rcases hk' with rfl | ⟨rfl, _⟩ <;> omega)
  clear hk'
  rcases hk3 with ⟨t1, t2⟩ | ⟨t1, t2, t3, t4⟩
  all_goals
    go_enter Tryz.func20, Tryz.ntmps20
    go_wp2_with (go_at_call 60; fail)
    refine (r9Key_any k _ hk1 hk2).mono ?_
    rintro e W ⟨rfl, hw⟩
    have hm : Mod no w W := by rw [hw]; exact (Mod.refl no w).alloc _
    have ho := congrArg (fun W => W.heap[w.heap.size]?) hw
    simp only [heap_alloc_new] at ho
    have hlt := (Array.getElem?_eq_some_iff.1 ho).1
    have HM := Lib.hid hm
    have hm0 := hm
    have c0 := cell_of_heap (i := 0) ho
    have c1 := cell_of_heap (i := 1) ho
    have c2 := cell_of_heap (i := 2) ho
    have c3 := cell_of_heap (i := 3) ho
    have c4 := cell_of_heap (i := 4) ho
    simp only [List.getElem?_toArray, List.getElem?_cons_zero, List.getElem?_cons_succ] at c0 c1 c2 c3 c4
    clear hw hm ho
    go_wp2_with fail
    refine (r1Nums_any _ [kind, client, seq] _ (RowR.madeAt W [.int .i64 kind, .int .i64 client, .int .i64 seq] 3 3 _ rfl (by omega)) (by have := HKB.out; simp; omega) (by simp)).mono ?_
    rintro e w1 ⟨v1, rfl, h1⟩
    have hm1 : Mod no W w1 := ((Mod.refl no W).alloc _).trans h1.2
    have H1 := Lib.hid (NewB.from (hm0.trans ((Mod.refl no W).alloc _)) h1)
    have HM1 := Lib.hid hm1
    obtain ⟨A1, n1, rfl⟩ := owns_slice h1.1
    have HB1 : Hid (∀ j, (Value.slice A1 (numsEnc [kind, client, seq]).length n1).ownBlock = some j → W.heap.size ≤ j) := Lib.hid (fun j hj => by have := (h1.1.lt j hj).1; simp at this; omega)
    have d3 := hm1.cell c3 (no_false _)
    have d4 := hm1.cell c4 (no_false _)
    clear hm0 h1 hm1 c0 c1 c2 c3 c4
    go_wp2_with (refine sb_law (o := ⟨some 65, _, _, _, _, _⟩) rfl rfl Tryz.underlying9 Tryz.underlying22 Tryz.underlying5 rfl (by unfold maxLen; omega) ?_; intro vb w2 g1 g2 g3; obtain ⟨Ab, cb, rfl, -⟩ := id g1)
    have hbl := bytes_len k
    have g4 : SlR w2 encB (.slice Ab k.size cb) k.data.toList := by rw [hbl] at g1; exact g1
    obtain ⟨B, hB⟩ : ∃ B, B = numEnc k.data.toList.length ++ k.data.toList := ⟨_, rfl⟩
    obtain ⟨C, hC⟩ : ∃ C, C = numEnc text.length ++ text := ⟨_, rfl⟩
    obtain ⟨L, hL⟩ : ∃ L, L = numsEnc [kind, client, seq] := ⟨_, rfl⟩
    have hall : opEnc kind client seq k text = L ++ B ++ C := by unfold opEnc; rw [rowsEnc_two, hB, hC, hL]; simp only [List.append_assoc]
    have hall2 := hlen
    rw [hall, List.length_append, List.length_append] at hall2
    have HALL := Lib.hid hall
    refine (r1Bytes_any _ k.data.toList w2 g4 (by omega)).mono ?_
    rintro e w3 ⟨v2, rfl, h2⟩
    rw [← hB] at h2
    rw [← hL] at H1 HB1 ⊢
    obtain ⟨A2, n2, rfl⟩ := owns_slice h2.1
    have H2 := Lib.hid h2
    have hm3 : Mod no w1 w3 := g2.trans h2.2
    have HM3 := Lib.hid hm3
    have e4 := hm3.cell d4 (no_false _)
    have O1 := Lib.hid (owns_mod H1.out.1 hm3 (fun _ _ => no_false _))
    have hs1 := (H1.out.2.trans hm3).size
    have HC := Lib.hid hC
    clear h2 hm3 g1 g2 g3 g4 d3 d4 hB hC hL hall
    go_wp2_with (first
      | (at_builtin; go_must (refine app_law elB rfl rfl O1.out (RowR.ofOwns H2.out.1) rfl rfl (by simp) (encB_one _) (by omega) (by unfold maxLen; omega) (by omega) ?_; intro v3 w4 k1 k2 k3 k4; obtain ⟨A3, n3, rfl⟩ := owns_slice k1; have K1 := Lib.hid k1; have K2 := Lib.hid k2; clear k1 k2 k3 k4; have e5 := K2.out.cell e4 (fun h => by have h2 : W.heap.size ≤ w.heap.size := HB1.out _ h.symm; omega)))
      | (go_at_call 62; fail))
    have ht5 : Mod no w w4 := (H1.out.2.trans HM3.out).andThen K2.out (fun i hi h => by exfalso; have := HB1.out i h.symm; omega)
    have HT5 := Lib.hid ht5
    refine (r1Bytes_any _ text w4 (RowR.mod HT.out ht5 (fun _ _ => no_false _)) (by omega)).mono ?_
    rintro e w5 ⟨v4, rfl, h5⟩
    rw [← HC.out] at h5
    obtain ⟨A4, n4, rfl⟩ := owns_slice h5.1
    have H5 := Lib.hid h5
    have hsz5 := h5.2.size
    have hsz4 := ht5.size
    have O3 := Lib.hid (owns_mod K1.out h5.2 (fun _ _ => no_false _))
    clear h5 ht5 e4 e5
    go_wp2_with (at_builtin; refine app_law elB rfl rfl O3.out (RowR.ofOwns H5.out.1) rfl rfl (by simp) (encB_one _) (by omega) (by unfold maxLen; omega) (by omega) ?_; intro v5 w6 k1 k2 k3 k4; obtain ⟨A5, n5, rfl⟩ := owns_slice k1)
    go_ret2
    refine ⟨_, rfl, ?_⟩
    rw [HALL.out]
    have K1' := K1.out
    rw [← List.map_append] at K1'
    have hN : NewB w w4 (.slice A3 (L.length + B.length) n3) (L ++ B) := ⟨by rw [List.length_append]; exact K1', HT5.out⟩
    refine NewB.app hN H5.out.2 ?_ k2
    rw [List.length_append, List.map_append]
    exact k1
end Go.Proofs.YtbloppbiojopaaaGreatDoor
