/- Package op: Decode, of bytes that Encode has written. -/
import Derived.Test.YtbloppbiojopaaaGreatDoorOpF
import Derived.Test.YtbloppbiojopaaaGreatDoorMemC
set_option maxRecDepth 100000
namespace Go.Proofs.YtbloppbiojopaaaGreatDoor
open Go Go.RowKit

set_option maxHeartbeats 1000000 in
theorem opDecode_ok (kind client seq : Int) (k : ByteArray) (vd : Value) (text : List UInt8) (w : World) (hok : OpOk kind client seq k text) (hd : SlR w encB vd (opEnc kind client seq k text)) :
    Calls Tryz.prog 24 #[vd] w fun e w' => ∃ v, e = .returned (.tuple #[.agg #[.int .i64 kind, .int .i64 client, .int .i64 seq, .string k, v], .int .i64 0]) ∧ SlR w' encB v text ∧ (∀ b, v.ownBlock = some b → w.heap.size ≤ b) ∧ Mod no w w' := by
  have hlen := opEnc_len hok
  have HOK := Lib.hid hok
  obtain ⟨hk, ⟨hc1, hc2⟩, ⟨hs1, hs2⟩, ⟨hk1, hk2⟩, htl, hg⟩ := hok
  obtain ⟨kn, rfl⟩ : ∃ n : Nat, kind = n := ⟨kind.toNat, by omega⟩
  obtain ⟨cn, rfl⟩ : ∃ n : Nat, client = n := ⟨client.toNat, by omega⟩
  obtain ⟨sn, rfl⟩ : ∃ n : Nat, seq = n := ⟨seq.toNat, by omega⟩
  have hbl := bytes_len k
  obtain ⟨R2, hR2⟩ : ∃ R, R = numEnc text.length ++ text ++ [] := ⟨_, rfl⟩
  obtain ⟨R, hR⟩ : ∃ R, R = numEnc k.data.toList.length ++ k.data.toList ++ R2 := ⟨_, rfl⟩
  obtain ⟨L, hL⟩ : ∃ L, L = opEnc kn cn sn k text := ⟨_, rfl⟩
  have hL2 : L = numEnc kn ++ (numEnc cn ++ (numEnc sn ++ R)) := by
    rw [hL, opEnc, rowsEnc_two, hR, hR2]; simp [numsEnc]
  have q1 := rdNum_enc kn (by omega) (numEnc cn ++ (numEnc sn ++ R)) false
  have q2 := rdNum_enc cn (by omega) (numEnc sn ++ R) false
  have q3 := rdNum_enc sn (by omega) R false
  have q4 := rdBytes_enc k.data.toList R2 (by omega) false
  have q5 := rdBytes_enc text [] (by omega) false
  rw [← hL2] at q1
  rw [← hR] at q4
  rw [← hR2] at q5
  rw [← hL] at hd hlen
  have HD := Lib.hid hd
  have Q1 := Lib.hid q1
  have Q2 := Lib.hid q2
  have Q3 := Lib.hid q3
  have Q4 := Lib.hid q4
  have Q5 := Lib.hid q5
  have HL := Lib.hid hL
  clear hd q1 q2 q3 q4 q5 hL hL2 hR hR2 hg hk
  obtain ⟨m1, hm1⟩ : ∃ m, m = numEnc cn ++ (numEnc sn ++ R) := ⟨_, rfl⟩
  obtain ⟨m2, hm2⟩ : ∃ m, m = numEnc sn ++ R := ⟨_, rfl⟩
  rw [← hm1] at Q1
  rw [← hm1, ← hm2] at Q2
  rw [← hm2] at Q3
  clear hm1 hm2
  go_enter Tryz.func24, Tryz.ntmps24
  go_wp2_with fail
  have hm0 : Mod no w ((w.alloc (.cells #[.int .i64 0, .int .i64 0, .int .i64 0, .string ⟨#[]⟩, .slice none 0 0] 58)).alloc (.cells #[.int .i64 0, .int .i64 0, .int .i64 0, .string ⟨#[]⟩, .slice none 0 0] 58)) := ((Mod.refl no w).alloc _).alloc _
  have hB := heap_two w (.cells #[.int .i64 0, .int .i64 0, .int .i64 0, .string ⟨#[]⟩, .slice none 0 0] 58) (.cells #[.int .i64 0, .int .i64 0, .int .i64 0, .string ⟨#[]⟩, .slice none 0 0] 58)
  have hO := heap_alloc_new (w.alloc (.cells #[.int .i64 0, .int .i64 0, .int .i64 0, .string ⟨#[]⟩, .slice none 0 0] 58)) (.cells #[.int .i64 0, .int .i64 0, .int .i64 0, .string ⟨#[]⟩, .slice none 0 0] 58)
  have hsz : ((w.alloc (.cells #[.int .i64 0, .int .i64 0, .int .i64 0, .string ⟨#[]⟩, .slice none 0 0] 58)).alloc (.cells #[.int .i64 0, .int .i64 0, .int .i64 0, .string ⟨#[]⟩, .slice none 0 0] 58)).heap.size = w.heap.size + 2 := by simp
  rw [show (w.alloc (.cells #[.int .i64 0, .int .i64 0, .int .i64 0, .string ⟨#[]⟩, .slice none 0 0] 58)).heap.size = w.heap.size + 1 by simp] at hO
  have HDo := HD.out
  refine (NewReader_any vd L _ (RowR.mod HDo hm0 (fun _ _ => no_false _)) (by omega)).mono ?_
  rintro e w1 ⟨r, c, rfl, hr1, hr2, hc, hrd, hm⟩
  have hB1 := hm.heap hB (no_false _)
  have hO1 := hm.heap hO (no_false _)
  rw [hsz] at hr1 hc
  have hmm := hm0.trans hm
  have HR := Lib.hid hrd
  have HB := Lib.hid hB1
  have HO := Lib.hid hO1
  have HM := Lib.hid hmm
  clear hm0 hB hO hm hB1 hO1 hmm HDo hrd hsz
  go_wp2_with fail
  have hp1 := (Mod.refl no w1).alloc (.cells #[.pointer (some ⟨w.heap.size + 1, 0, none⟩), .pointer (some ⟨w.heap.size + 1, 1, none⟩), .pointer (some ⟨w.heap.size + 1, 2, none⟩)] 139)
  have hsz1 := (HM.out).size
  have hO1 := Array.getElem?_eq_some_iff.1 HO.out
  obtain ⟨hO1, -⟩ := hO1
  refine (RNums3 r c (w.heap.size + 1) L false _ _ _ _ _ _ _ (HR.out.mod hp1 (no_false _) (no_false _)) (hp1.heap HO.out (no_false _)) (by omega) (by omega) (RowR.madeAt w1 [.pointer (some ⟨w.heap.size + 1, 0, none⟩), .pointer (some ⟨w.heap.size + 1, 1, none⟩), .pointer (some ⟨w.heap.size + 1, 2, none⟩)] 139 3 _ rfl (by omega)) (fun j hj => by simp [Value.ownBlock] at hj; omega) _ _ _ Q1.out Q2.out Q3.out).mono ?_
  rintro e w2 ⟨rfl, hr, ho, hm⟩
  have hB2 := hm.heap (hp1.heap HB.out (no_false _)) (k := w.heap.size) (by unfold two; omega)
  have hm2 : Mod (two r (w.heap.size + 1)) w w2 := ((HM.out.mono (fun _ _ f => f.elim)).trans (hp1.mono (fun _ _ f => f.elim))).trans hm
  have hm3 : Mod no w w2 := hm2.mono (fun i hi h => by unfold two at h; omega)
  have HR2 := Lib.hid hr
  have HO2 := Lib.hid ho
  have HB2 := Lib.hid hB2
  have HM2 := Lib.hid hm3
  have hsz2 := hm3.size
  clear hp1 hr ho hm hB2 hm2 hm3 HR HB HO HM Q1 Q2 Q3
  go_wp2_with fail
  refine (RBytes_any r c R false w2 HR2.out).mono ?_
  rintro e w3 ⟨v1, rfl, hv1, hr3, hm3⟩
  rw [Q4.out] at hv1 hr3
  have hcv := bs_conv w3 v1 _ (RowR.ofOwns hv1)
  have e1 : (⟨k.data.toList.toArray⟩ : ByteArray) = k := by simp
  rw [e1] at hcv
  have nr : ¬ only r (w.heap.size + 1) := by unfold only; omega
  have nr0 : ¬ only r w.heap.size := by unfold only; omega
  have ho3 := hm3.heap HO2.out nr
  have hB3 := hm3.heap HB2.out nr0
  have hm4 : Mod no w w3 := HM2.out.andThen hm3 (fun i hi h => by unfold only at h; omega)
  have c3 := cell_of_heap (i := 3) ho3
  have f3 := free_of_heap (i := 3) ho3
  simp only [List.getElem?_toArray, List.getElem?_cons_zero, List.getElem?_cons_succ] at c3
  have HR3 := Lib.hid hr3
  have HO3 := Lib.hid ho3
  have HB3 := Lib.hid hB3
  have HM3 := Lib.hid hm4
  clear hv1 hr3 hm3 nr nr0 ho3 hB3 hm4 e1 HR2 HO2 HB2 HM2
  go_wp2_with fail
  have p1 := (Mod.refl (only (w.heap.size + 1)) w3).put (i := 3) (only_self _) (.string k)
  have ho4 := heap_setCell_same (i := 3) HO3.out (.string k)
  have no1 : ¬ only (w.heap.size + 1) r := by unfold only; omega
  have no2 : ¬ only (w.heap.size + 1) c := by unfold only; omega
  have no3 : ¬ only (w.heap.size + 1) w.heap.size := by unfold only; omega
  have hr4 := HR3.out.mod p1 no1 no2
  have hB4 := p1.heap HB3.out no3
  have hm4 : Mod no w (w3.setCell ⟨w.heap.size + 1, 3, none⟩ (.string k)) := HM3.out.andThen p1 (fun i hi h => by unfold only at h; omega)
  obtain ⟨w4, hw4⟩ : ∃ w4, w4 = w3.setCell ⟨w.heap.size + 1, 3, none⟩ (.string k) := ⟨_, rfl⟩
  rw [← hw4] at ho4 hr4 hB4 hm4 ⊢
  have HR4 := Lib.hid hr4
  have HO4 := Lib.hid ho4
  have hlt4 := (Array.getElem?_eq_some_iff.1 ho4).1
  have HB4 := Lib.hid hB4
  have HM4 := Lib.hid hm4
  clear hr4 ho4 hB4 hm4 hw4 p1 no1 no2 no3 HR3 HO3 HB3 HM3 c3 f3 hcv
  refine (RBytes_any r c R2 false w4 HR4.out).mono ?_
  rintro e w5 ⟨v2, rfl, hv2, hr5, hm5⟩
  rw [Q5.out] at hv2 hr5
  have nr : ¬ only r (w.heap.size + 1) := by unfold only; omega
  have nr0 : ¬ only r w.heap.size := by unfold only; omega
  have ho5 : w5.heap[w.heap.size + 1]? = some (.cells #[.int .i64 kn, .int .i64 cn, .int .i64 sn, .string k, .slice none 0 0] 58 (0, 0)) := hm5.heap HO4.out nr
  have hB5 := hm5.heap HB4.out nr0
  have hm6 : Mod no w w5 := HM4.out.andThen hm5 (fun i hi h => by unfold only at h; omega)
  have c4 := cell_of_heap (i := 4) ho5
  have f4 := free_of_heap (i := 4) ho5
  simp only [List.getElem?_toArray, List.getElem?_cons_zero, List.getElem?_cons_succ] at c4
  obtain ⟨A2, c2, rfl⟩ := owns_slice hv2
  have HV := Lib.hid hv2
  have HR5 := Lib.hid hr5
  have HO5 := Lib.hid ho5
  have HB5 := Lib.hid hB5
  have HM5 := Lib.hid hm6
  clear hv2 hr5 hm5 nr nr0 ho5 hB5 hm6 HR4 HO4 HB4
  go_wp2_with fail
  have p1 := (Mod.refl (only (w.heap.size + 1)) w5).put (i := 4) (only_self _) (.slice A2 text.length c2)
  have ho6 := heap_setCell_same (i := 4) HO5.out (.slice A2 text.length c2)
  have no1 : ¬ only (w.heap.size + 1) r := by unfold only; omega
  have no2 : ¬ only (w.heap.size + 1) c := by unfold only; omega
  have no3 : ¬ only (w.heap.size + 1) w.heap.size := by unfold only; omega
  have hr6 := HR5.out.mod p1 no1 no2
  have hB6 := p1.heap HB5.out no3
  have hv6 := RowR.mod (RowR.ofOwns HV.out) p1 (fun j hj => by have := (owns_block HV.out j hj).1; unfold only; omega)
  have hm6 : Mod no w (w5.setCell ⟨w.heap.size + 1, 4, none⟩ (.slice A2 text.length c2)) := HM5.out.andThen p1 (fun i hi h => by unfold only at h; omega)
  have hvb : ∀ j, (Value.slice A2 text.length c2).ownBlock = some j → w.heap.size + 1 < j := fun j hj => by have := (owns_block HV.out j hj).1; omega
  have HVB := Lib.hid hvb
  clear hvb
  obtain ⟨w6, hw6⟩ : ∃ w6, w6 = w5.setCell ⟨w.heap.size + 1, 4, none⟩ (.slice A2 text.length c2) := ⟨_, rfl⟩
  rw [← hw6] at ho6 hr6 hB6 hm6 hv6 ⊢
  have HR6 := Lib.hid hr6
  have HO6 := Lib.hid ho6
  have HB6 := Lib.hid hB6
  have HM6 := Lib.hid hm6
  have HV6 : Hid (SlR w6 encB (.slice A2 text.length c2) text) := Lib.hid hv6
  clear hr6 ho6 hB6 hm6 hv6 hw6 p1 no1 no2 no3 HR5 HO5 HB5 HM5 c4 f4 HV
  refine (RWhole_any r c [] false w6 HR6.out).mono ?_
  rintro e W ⟨rfl, hW⟩
  rw [hW]
  clear hW W
  have ho6 : w6.heap[w.heap.size + 1]? = some (.cells #[.int .i64 kn, .int .i64 cn, .int .i64 sn, .string k, .slice A2 text.length c2] 58 (0, 0)) := HO6.out
  have c0 := cell_of_heap (i := 0) ho6
  have c1 := cell_of_heap (i := 1) ho6
  have c2' := cell_of_heap (i := 2) ho6
  have c3 := cell_of_heap (i := 3) ho6
  have c4 := cell_of_heap (i := 4) ho6
  simp only [List.getElem?_toArray, List.getElem?_cons_zero, List.getElem?_cons_succ] at c0 c1 c2' c3 c4
  have HO7 := Lib.hid ho6
  clear ho6 HO6
  go_wp2_with fail
  refine (opEncode_ok kn cn sn k _ text w6 HOK.out HV6.out).mono ?_
  rintro e w7 ⟨v7, rfl, hn, hm7⟩
  have hv7 := RowR.mod (HV6.out) hm7 (fun _ _ => no_false _)
  have ho8 := hm7.heap HO7.out (no_false _)
  have hB8 := hm7.heap HB6.out (no_false _)
  have hm8 := HM6.out.trans hm7
  have HN : Hid (SlR w7 encB v7 (opEnc kn cn sn k text)) := Lib.hid (RowR.ofOwns hn)
  have HB8 := Lib.hid hB8
  have HM8 := Lib.hid hm8
  have HV8 : Hid (SlR w7 encB (.slice A2 text.length c2) text) := Lib.hid hv7
  have d0 := cell_of_heap (i := 0) ho8
  have d1 := cell_of_heap (i := 1) ho8
  have d2 := cell_of_heap (i := 2) ho8
  have d3 := cell_of_heap (i := 3) ho8
  have d4 := cell_of_heap (i := 4) ho8
  simp only [List.getElem?_toArray, List.getElem?_cons_zero, List.getElem?_cons_succ] at d0 d1 d2 d3 d4
  clear hn hm7 hv7 ho8 hB8 hm8 c0 c1 c2' c3 c4 HO7 HB6 HM6 HV6 HR6
  go_wp2_with fail
  refine (bEqual_any v7 vd _ L w7 HN.out (RowR.mod HD.out HM8.out (fun _ _ => no_false _))).mono ?_
  rintro e W ⟨rfl, hW⟩
  rw [hW, HL.out]
  clear hW W
  have b0 := cell_of_heap (i := 0) HB8.out
  have b1 := cell_of_heap (i := 1) HB8.out
  have b2 := cell_of_heap (i := 2) HB8.out
  have b3 := cell_of_heap (i := 3) HB8.out
  have b4 := cell_of_heap (i := 4) HB8.out
  have f0 := free_of_heap (i := 0) HB8.out
  have f1 := free_of_heap (i := 1) HB8.out
  have f2 := free_of_heap (i := 2) HB8.out
  have f3 := free_of_heap (i := 3) HB8.out
  have f4 := free_of_heap (i := 4) HB8.out
  simp only [List.getElem?_toArray, List.getElem?_cons_zero, List.getElem?_cons_succ] at b0 b1 b2 b3 b4
  go_wp2_with fail
  refine bodyPost_ret (by rw [results_cell_tmp rfl]; go_simp; rfl) rfl ?_
  refine ⟨_, rfl, RowR.mod HV8.out (S := only w.heap.size) ?_ (fun j hj => by have := HVB.out j hj; unfold only; omega), fun j hj => by have := HVB.out j hj; omega, ?_⟩
  · exact (((((Mod.refl (only w.heap.size) w7).put (only_self _) _).put (only_self _) _).put (only_self _) _).put (only_self _) _).put (only_self _) _
  · exact ((((HM8.out.putNew (Nat.le_refl _) _).putNew (Nat.le_refl _) _).putNew (Nat.le_refl _) _).putNew (Nat.le_refl _) _).putNew (Nat.le_refl _) _
end Go.Proofs.YtbloppbiojopaaaGreatDoor
