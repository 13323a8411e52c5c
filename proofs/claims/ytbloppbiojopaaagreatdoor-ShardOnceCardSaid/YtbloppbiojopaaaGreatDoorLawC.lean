/- ShardOnce: the walk. -/
import Derived.Test.YtbloppbiojopaaaGreatDoorLawK
import Derived.Deep.CutRange
import Derived.Deep.RegionHeld3
import Derived.IntWalk
set_option maxRecDepth 100000
namespace Go.Proofs.YtbloppbiojopaaaGreatDoor
open Go Go.RowKit

set_option maxHeartbeats 40000000 in
theorem lawOnce_in (c s : Int) (k : ByteArray) (va vb : Value) (A B : List UInt8) (w : World) (ha : SlR w encB va A) (hb : SlR w encB vb B)
    (hc1 : 0 ≤ c) (hc2 : c ≤ 1000) (hs1 : 1 ≤ s) (hs2 : s ≤ 1000) (hk1 : 1 ≤ k.size) (hk2 : k.size ≤ 64) (hA : A.length ≤ 200) (hB : B.length ≤ 200) :
    Calls Tryz.prog 3 #[.int .i64 c, .int .i64 s, .string k, va, vb] w fun e w' => e = .returned (.bool true) ∧ Mod no w w' := by
  obtain ⟨Aa, ca, rfl, ha2, ha3, -⟩ := id ha
  obtain ⟨Ab, cb, rfl, hb2, hb3, -⟩ := id hb
  have HA := Lib.hid ha
  have HB := Lib.hid hb
  have g1 : decide (c < 0) = false := by simp; omega
  have g2 : decide (1000 < c) = false := by simp; omega
  have g3 : decide (s < 1) = false := by simp; omega
  have g4 : decide (1000 < s) = false := by simp; omega
  have g5 : decide ((k.size : Int) < 1) = false := by simp; omega
  have g6 : decide (64 < (k.size : Int)) = false := by simp; omega
  have g7 : decide (200 < (A.length : Int)) = false := by simp; omega
  have g8 : decide (200 < (B.length : Int)) = false := by simp; omega
  have hok1 : OpOk 1 c s k A := ⟨.inl rfl, ⟨hc1, by omega⟩, ⟨by omega, by omega⟩, ⟨hk1, hk2⟩, by omega, by omega⟩
  have hok2 : OpOk 1 (c + 1) 1 k B := ⟨.inl rfl, ⟨by omega, by omega⟩, ⟨by omega, by omega⟩, ⟨hk1, hk2⟩, by omega, by omega⟩
  have hok4 : OpOk 2 c (s - 1) k [] := ⟨.inr rfl, ⟨hc1, by omega⟩, ⟨by omega, by omega⟩, ⟨hk1, hk2⟩, by simp, fun _ => rfl⟩
  have hok5 : OpOk 2 c (s + 1) k [] := ⟨.inr rfl, ⟨hc1, by omega⟩, ⟨by omega, by omega⟩, ⟨hk1, hk2⟩, by simp, fun _ => rfl⟩
  have hok6 : OpOk 2 c (s + 2) k [] := ⟨.inr rfl, ⟨hc1, by omega⟩, ⟨by omega, by omega⟩, ⟨hk1, hk2⟩, by simp, fun _ => rfl⟩
  have HO1 := Lib.hid hok1
  have HO2 := Lib.hid hok2
  have HO4 := Lib.hid hok4
  have HO5 := Lib.hid hok5
  have HO6 := Lib.hid hok6
  clear ha hb hok1 hok2 hok4 hok5 hok6
  go_enter Tryz.func3, Tryz.ntmps3
  go_wp2_with fail
  refine (start_step 1048576 w (by omega) (by omega)).mono ?_
  rintro e w1 ⟨p, a, rfl, h0⟩
  have H0 : Hid (Sh w w1 p a sx0) := Lib.hid h0
  have KA : Hid (Kept a w1 (.slice Aa A.length ca) A) := Lib.hid ⟨RowR.mod HA.out h0.2.2.1 (fun _ _ => no_false _), h0.old fun b hb => RowR.lt HA.out b hb⟩
  have KB : Hid (Kept a w1 (.slice Ab B.length cb) B) := Lib.hid ⟨RowR.mod HB.out h0.2.2.1 (fun _ _ => no_false _), h0.old fun b hb => RowR.lt HB.out b hb⟩
  clear h0 HA HB g1 g2 g3 g4 g5 g6 g7 g8
  -- THE OPS
  go_wp2_with fail
  have c1 := H0.out.mod (Mod.refl no w1).drew |>.cell
  go_cut [13] from 25 (fun sv W => ∃ v, sv = v ∧ Hid (Sh w W p a (sx1 c s k A)) ∧ Hid (Kept a W v [0, 1, 0]) ∧ Hid (Mod (shS a) w1 W))
  case first =>
   as_aux_lemma =>
    go_region_held3 (fun W' => W'.cell? ⟨p, 2, none⟩ = some (P0 a.s)) (first | exact c1 | exact d2 | exact d3) (first
      | (go_at_call 8; refine (put_step (H0.out.mod (Mod.refl no w1).drew) 1 c s k _ A HO1.out (KA.out.mod0 (Mod.refl no w1).drew).1).mono ?_; rintro e w2 ⟨v1, rfl, q1, q2, q3⟩; have d2 := q1.cell; have Q1 := Lib.hid q1; have Q2 := Lib.hid q2; have Q3 := Lib.hid q3; clear q1 q2 q3)
      | (go_at_call 7; refine (apply_step Q1.out 1 c s k v1 A HO1.out Q2.out 1 rfl (by simp [sx0]) (by simp [sx0]) (by simp [sx0]) _ (ap1 c s k A)).mono ?_; rintro e w3 ⟨v2, rfl, r1, r2, r3⟩; have d3 := r1.cell; have R1 := Lib.hid r1; have R2 := Lib.hid r2; have R3 := Lib.hid r3; clear r1 r2 r3))
    all_goals (go_wp2_with fail; go_meet; case rel => exact ⟨v2, rfl, R1, R2, Lib.hid ((((Mod.refl no w1).drew.trans Q3.out).mono fun _ _ f => f.elim).trans R3.out)⟩)
  case rest =>
  as_aux_lemma =>
  obtain ⟨y1, rfl, H1, K1, hM⟩ := hcut
  have KA := Lib.hid (KA.out.mod hM.out)
  have KB := Lib.hid (KB.out.mod hM.out)
  clear hM c1 H0
  go_wp2_with fail
  have c2 := H1.out.mod (Mod.refl no wc).drew |>.cell
  go_cut [14] from 25 (fun sv W => ∃ v, sv = v ∧ Hid (Sh w W p a (sx2 c s k B)) ∧ Hid (Kept a W v [0, 1, 1]) ∧ Hid (Mod (shS a) wc W))
  case first =>
   as_aux_lemma =>
    have wr : IntKind.i64.wrap (c + 1) = (c + 1) := IntWalk.i64_in _ (by omega)
    go_region_held3 (fun W' => W'.cell? ⟨p, 2, none⟩ = some (P0 a.s)) (first | exact c2 | exact d2 | exact d3) (first
      | (go_at_call 8; refine (put_step (H1.out.mod (Mod.refl no wc).drew) 1 (c + 1) 1 k _ B HO2.out (KB.out.mod0 (Mod.refl no wc).drew).1).mono ?_; rintro e w2 ⟨v1, rfl, q1, q2, q3⟩; have d2 := q1.cell; have Q1 := Lib.hid q1; have Q2 := Lib.hid q2; have Q3 := Lib.hid q3; clear q1 q2 q3)
      | (go_at_call 7; refine (apply_step Q1.out 1 (c + 1) 1 k v1 B HO2.out Q2.out 2 rfl (by simp [sx1]) (by simp [sx1]) (by simp [sx1]) _ (ap2 c s k A B)).mono ?_; rintro e w3 ⟨v2, rfl, r1, r2, r3⟩; have d3 := r1.cell; have R1 := Lib.hid r1; have R2 := Lib.hid r2; have R3 := Lib.hid r3; clear r1 r2 r3))
    all_goals (clear wr; go_wp2_with fail; go_meet; case rel => exact ⟨v2, rfl, R1, R2, Lib.hid ((((Mod.refl no wc).drew.trans Q3.out).mono fun _ _ f => f.elim).trans R3.out)⟩)
  case rest =>
  as_aux_lemma =>
  obtain ⟨y2, rfl, H2, K2, hM⟩ := hcut
  have KA := Lib.hid (KA.out.mod hM.out)
  have KB := Lib.hid (KB.out.mod hM.out)
  have K1 := Lib.hid (K1.out.mod hM.out)
  clear hM c2 H1
  go_wp2_with fail
  have c3 := H2.out.mod (Mod.refl no wc).drew |>.cell
  go_cut [15] from 25 (fun sv W => ∃ v, sv = v ∧ Hid (Sh w W p a (sx3 c s k B)) ∧ Hid (Kept a W v [0, 1, 0]) ∧ Hid (Mod (shS a) wc W))
  case first =>
   as_aux_lemma =>
    go_region_held3 (fun W' => W'.cell? ⟨p, 2, none⟩ = some (P0 a.s)) (first | exact c3 | exact d2 | exact d3) (first
      | (go_at_call 8; refine (put_step (H2.out.mod (Mod.refl no wc).drew) 1 c s k _ A HO1.out (KA.out.mod0 (Mod.refl no wc).drew).1).mono ?_; rintro e w2 ⟨v1, rfl, q1, q2, q3⟩; have d2 := q1.cell; have Q1 := Lib.hid q1; have Q2 := Lib.hid q2; have Q3 := Lib.hid q3; clear q1 q2 q3)
      | (go_at_call 7; refine (apply_step Q1.out 1 c s k v1 A HO1.out Q2.out 3 rfl (by simp [sx2]) (by simp [sx2]) (by simp [sx2]) _ (ap3 c s k A B)).mono ?_; rintro e w3 ⟨v2, rfl, r1, r2, r3⟩; have d3 := r1.cell; have R1 := Lib.hid r1; have R2 := Lib.hid r2; have R3 := Lib.hid r3; clear r1 r2 r3))
    all_goals (go_wp2_with fail; go_meet; case rel => exact ⟨v2, rfl, R1, R2, Lib.hid ((((Mod.refl no wc).drew.trans Q3.out).mono fun _ _ f => f.elim).trans R3.out)⟩)
  case rest =>
  as_aux_lemma =>
  obtain ⟨y3, rfl, H3, K3, hM⟩ := hcut
  have KA := Lib.hid (KA.out.mod hM.out)
  have KB := Lib.hid (KB.out.mod hM.out)
  have K1 := Lib.hid (K1.out.mod hM.out)
  have K2 := Lib.hid (K2.out.mod hM.out)
  clear hM c3 H2
  have cc := H3.out.cell
  go_wp2_with fail
  refine (get_step H3.out k _ (gt3 c s k B)).mono ?_
  rintro e wc ⟨yt, rfl, h, k1, hm⟩
  have H3 := Lib.hid h
  have Kyt := Lib.hid k1
  have KA := Lib.hid (KA.out.mod0 hm)
  have KB := Lib.hid (KB.out.mod0 hm)
  have K1 := Lib.hid (K1.out.mod0 hm)
  have K2 := Lib.hid (K2.out.mod0 hm)
  have K3 := Lib.hid (K3.out.mod0 hm)
  clear h k1 hm cc
  go_wp2_with fail
  have c4 := H3.out.mod (Mod.refl no wc).drew |>.cell
  go_cut [18] from 25 (fun sv W => ∃ v, sv = v ∧ Hid (Sh w W p a (sx4 c s k B)) ∧ Hid (Kept a W v [13, 0]) ∧ Hid (Mod (shS a) wc W))
  case first =>
   as_aux_lemma =>
    have wr : IntKind.i64.wrap (s - 1) = (s - 1) := IntWalk.i64_in _ (by omega)
    go_region_held3 (fun W' => W'.cell? ⟨p, 2, none⟩ = some (P0 a.s)) (first | exact c4 | exact d2 | exact d3) (first
      | (go_at_call 8; refine (put_step (H3.out.mod (Mod.refl no wc).drew) 2 c (s - 1) k _ [] HO4.out (SlR.nil _ _)).mono ?_; rintro e w2 ⟨v1, rfl, q1, q2, q3⟩; have d2 := q1.cell; have Q1 := Lib.hid q1; have Q2 := Lib.hid q2; have Q3 := Lib.hid q3; clear q1 q2 q3)
      | (go_at_call 7; refine (apply_step Q1.out 2 c (s - 1) k v1 [] HO4.out Q2.out 4 rfl (by simp [sx3]) (by simp [sx3]) (by simp [sx3]) _ (ap4 c s k B)).mono ?_; rintro e w3 ⟨v2, rfl, r1, r2, r3⟩; have d3 := r1.cell; have R1 := Lib.hid r1; have R2 := Lib.hid r2; have R3 := Lib.hid r3; clear r1 r2 r3))
    all_goals (clear wr; go_wp2_with fail; go_meet; case rel => exact ⟨v2, rfl, R1, R2, Lib.hid ((((Mod.refl no wc).drew.trans Q3.out).mono fun _ _ f => f.elim).trans R3.out)⟩)
  case rest =>
  as_aux_lemma =>
  obtain ⟨y4, rfl, H4, K4, hM⟩ := hcut
  have KA := Lib.hid (KA.out.mod hM.out)
  have KB := Lib.hid (KB.out.mod hM.out)
  have K1 := Lib.hid (K1.out.mod hM.out)
  have K2 := Lib.hid (K2.out.mod hM.out)
  have K3 := Lib.hid (K3.out.mod hM.out)
  have Kyt := Lib.hid (Kyt.out.mod hM.out)
  clear hM c4 H3
  have cc := H4.out.cell
  go_wp2_with fail
  refine (get_step H4.out k _ (gt4 c s k B)).mono ?_
  rintro e wc ⟨yu, rfl, h, k1, hm⟩
  have H4 := Lib.hid h
  have Kyu := Lib.hid k1
  have KA := Lib.hid (KA.out.mod0 hm)
  have KB := Lib.hid (KB.out.mod0 hm)
  have K1 := Lib.hid (K1.out.mod0 hm)
  have K2 := Lib.hid (K2.out.mod0 hm)
  have K3 := Lib.hid (K3.out.mod0 hm)
  have Kyt := Lib.hid (Kyt.out.mod0 hm)
  have K4 := Lib.hid (K4.out.mod0 hm)
  clear h k1 hm cc
  go_wp2_with fail
  refine (same_is _ _ _ _ (K1.out.mod0 ((Mod.refl no wc).alloc (.cells #[.int .u8 0, .int .u8 1, .int .u8 0] 5))).1 (rowB wc [0, 1, 0] 3 _ rfl rfl (by decide))).mono ?_
  rintro e wc ⟨rfl, hm⟩
  have H4 := Lib.hid (H4.out.mod (((Mod.refl no _).alloc (.cells #[.int .u8 0, .int .u8 1, .int .u8 0] 5)).trans hm))
  have KA := Lib.hid (KA.out.mod0 (((Mod.refl no _).alloc (.cells #[.int .u8 0, .int .u8 1, .int .u8 0] 5)).trans hm))
  have KB := Lib.hid (KB.out.mod0 (((Mod.refl no _).alloc (.cells #[.int .u8 0, .int .u8 1, .int .u8 0] 5)).trans hm))
  have K1 := Lib.hid (K1.out.mod0 (((Mod.refl no _).alloc (.cells #[.int .u8 0, .int .u8 1, .int .u8 0] 5)).trans hm))
  have K2 := Lib.hid (K2.out.mod0 (((Mod.refl no _).alloc (.cells #[.int .u8 0, .int .u8 1, .int .u8 0] 5)).trans hm))
  have K3 := Lib.hid (K3.out.mod0 (((Mod.refl no _).alloc (.cells #[.int .u8 0, .int .u8 1, .int .u8 0] 5)).trans hm))
  have Kyt := Lib.hid (Kyt.out.mod0 (((Mod.refl no _).alloc (.cells #[.int .u8 0, .int .u8 1, .int .u8 0] 5)).trans hm))
  have K4 := Lib.hid (K4.out.mod0 (((Mod.refl no _).alloc (.cells #[.int .u8 0, .int .u8 1, .int .u8 0] 5)).trans hm))
  have Kyu := Lib.hid (Kyu.out.mod0 (((Mod.refl no _).alloc (.cells #[.int .u8 0, .int .u8 1, .int .u8 0] 5)).trans hm))
  clear hm
  go_wp2_with fail
  refine (same_is _ _ _ _ (K2.out.mod0 ((Mod.refl no wc).alloc (.cells #[.int .u8 0, .int .u8 1, .int .u8 1] 5))).1 (rowB wc [0, 1, 1] 3 _ rfl rfl (by decide))).mono ?_
  rintro e wc ⟨rfl, hm⟩
  have H4 := Lib.hid (H4.out.mod (((Mod.refl no _).alloc (.cells #[.int .u8 0, .int .u8 1, .int .u8 1] 5)).trans hm))
  have KA := Lib.hid (KA.out.mod0 (((Mod.refl no _).alloc (.cells #[.int .u8 0, .int .u8 1, .int .u8 1] 5)).trans hm))
  have KB := Lib.hid (KB.out.mod0 (((Mod.refl no _).alloc (.cells #[.int .u8 0, .int .u8 1, .int .u8 1] 5)).trans hm))
  have K1 := Lib.hid (K1.out.mod0 (((Mod.refl no _).alloc (.cells #[.int .u8 0, .int .u8 1, .int .u8 1] 5)).trans hm))
  have K2 := Lib.hid (K2.out.mod0 (((Mod.refl no _).alloc (.cells #[.int .u8 0, .int .u8 1, .int .u8 1] 5)).trans hm))
  have K3 := Lib.hid (K3.out.mod0 (((Mod.refl no _).alloc (.cells #[.int .u8 0, .int .u8 1, .int .u8 1] 5)).trans hm))
  have Kyt := Lib.hid (Kyt.out.mod0 (((Mod.refl no _).alloc (.cells #[.int .u8 0, .int .u8 1, .int .u8 1] 5)).trans hm))
  have K4 := Lib.hid (K4.out.mod0 (((Mod.refl no _).alloc (.cells #[.int .u8 0, .int .u8 1, .int .u8 1] 5)).trans hm))
  have Kyu := Lib.hid (Kyu.out.mod0 (((Mod.refl no _).alloc (.cells #[.int .u8 0, .int .u8 1, .int .u8 1] 5)).trans hm))
  clear hm
  go_wp2_with fail
  refine (same_is _ _ _ _ (K3.out.mod0 (Mod.refl no wc)).1 (K1.out.mod0 (Mod.refl no wc)).1).mono ?_
  rintro e wc ⟨rfl, hm⟩
  have H4 := Lib.hid (H4.out.mod ((Mod.refl no _).trans hm))
  have KA := Lib.hid (KA.out.mod0 ((Mod.refl no _).trans hm))
  have KB := Lib.hid (KB.out.mod0 ((Mod.refl no _).trans hm))
  have K1 := Lib.hid (K1.out.mod0 ((Mod.refl no _).trans hm))
  have K2 := Lib.hid (K2.out.mod0 ((Mod.refl no _).trans hm))
  have K3 := Lib.hid (K3.out.mod0 ((Mod.refl no _).trans hm))
  have Kyt := Lib.hid (Kyt.out.mod0 ((Mod.refl no _).trans hm))
  have K4 := Lib.hid (K4.out.mod0 ((Mod.refl no _).trans hm))
  have Kyu := Lib.hid (Kyu.out.mod0 ((Mod.refl no _).trans hm))
  clear hm
  go_wp2_with fail
  refine (same_is _ _ _ _ (Kyt.out.mod0 (Mod.refl no wc)).1 (KB.out.mod0 (Mod.refl no wc)).1).mono ?_
  rintro e wc ⟨rfl, hm⟩
  have H4 := Lib.hid (H4.out.mod ((Mod.refl no _).trans hm))
  have KA := Lib.hid (KA.out.mod0 ((Mod.refl no _).trans hm))
  have KB := Lib.hid (KB.out.mod0 ((Mod.refl no _).trans hm))
  have K1 := Lib.hid (K1.out.mod0 ((Mod.refl no _).trans hm))
  have K2 := Lib.hid (K2.out.mod0 ((Mod.refl no _).trans hm))
  have K3 := Lib.hid (K3.out.mod0 ((Mod.refl no _).trans hm))
  have Kyt := Lib.hid (Kyt.out.mod0 ((Mod.refl no _).trans hm))
  have K4 := Lib.hid (K4.out.mod0 ((Mod.refl no _).trans hm))
  have Kyu := Lib.hid (Kyu.out.mod0 ((Mod.refl no _).trans hm))
  clear hm
  go_wp2_with fail
  refine (same_is _ _ _ _ (K4.out.mod0 ((Mod.refl no wc).alloc (.cells #[.int .u8 13, .int .u8 0] 5))).1 (rowB wc [13, 0] 2 _ rfl rfl (by decide))).mono ?_
  rintro e wc ⟨rfl, hm⟩
  have H4 := Lib.hid (H4.out.mod (((Mod.refl no _).alloc (.cells #[.int .u8 13, .int .u8 0] 5)).trans hm))
  have KA := Lib.hid (KA.out.mod0 (((Mod.refl no _).alloc (.cells #[.int .u8 13, .int .u8 0] 5)).trans hm))
  have KB := Lib.hid (KB.out.mod0 (((Mod.refl no _).alloc (.cells #[.int .u8 13, .int .u8 0] 5)).trans hm))
  have K1 := Lib.hid (K1.out.mod0 (((Mod.refl no _).alloc (.cells #[.int .u8 13, .int .u8 0] 5)).trans hm))
  have K2 := Lib.hid (K2.out.mod0 (((Mod.refl no _).alloc (.cells #[.int .u8 13, .int .u8 0] 5)).trans hm))
  have K3 := Lib.hid (K3.out.mod0 (((Mod.refl no _).alloc (.cells #[.int .u8 13, .int .u8 0] 5)).trans hm))
  have Kyt := Lib.hid (Kyt.out.mod0 (((Mod.refl no _).alloc (.cells #[.int .u8 13, .int .u8 0] 5)).trans hm))
  have K4 := Lib.hid (K4.out.mod0 (((Mod.refl no _).alloc (.cells #[.int .u8 13, .int .u8 0] 5)).trans hm))
  have Kyu := Lib.hid (Kyu.out.mod0 (((Mod.refl no _).alloc (.cells #[.int .u8 13, .int .u8 0] 5)).trans hm))
  clear hm
  go_wp2_with fail
  refine (same_is _ _ _ _ (Kyu.out.mod0 (Mod.refl no wc)).1 (KB.out.mod0 (Mod.refl no wc)).1).mono ?_
  rintro e wc ⟨rfl, hm⟩
  have H4 := Lib.hid (H4.out.mod ((Mod.refl no _).trans hm))
  have KA := Lib.hid (KA.out.mod0 ((Mod.refl no _).trans hm))
  have KB := Lib.hid (KB.out.mod0 ((Mod.refl no _).trans hm))
  have K1 := Lib.hid (K1.out.mod0 ((Mod.refl no _).trans hm))
  have K2 := Lib.hid (K2.out.mod0 ((Mod.refl no _).trans hm))
  have K3 := Lib.hid (K3.out.mod0 ((Mod.refl no _).trans hm))
  have Kyt := Lib.hid (Kyt.out.mod0 ((Mod.refl no _).trans hm))
  have K4 := Lib.hid (K4.out.mod0 ((Mod.refl no _).trans hm))
  have Kyu := Lib.hid (Kyu.out.mod0 ((Mod.refl no _).trans hm))
  clear hm
  clear K1 K2 K3 Kyt Kyu K4 KA KB
  go_wp2_with fail
  have c5 := H4.out.mod (Mod.refl no wc).drew |>.cell
  go_cut [21] from 25 (fun sv W => ∃ v, sv = v ∧ Hid (Sh w W p a (sx5 c s k)) ∧ Hid (Kept a W v [0, 0]) ∧ Hid (Mod (shS a) wc W))
  case first =>
   as_aux_lemma =>
    have wr : IntKind.i64.wrap (s + 1) = (s + 1) := IntWalk.i64_in _ (by omega)
    go_region_held3 (fun W' => W'.cell? ⟨p, 2, none⟩ = some (P0 a.s)) (first | exact c5 | exact d2 | exact d3) (first
      | (go_at_call 8; refine (put_step (H4.out.mod (Mod.refl no wc).drew) 2 c (s + 1) k _ [] HO5.out (SlR.nil _ _)).mono ?_; rintro e w2 ⟨v1, rfl, q1, q2, q3⟩; have d2 := q1.cell; have Q1 := Lib.hid q1; have Q2 := Lib.hid q2; have Q3 := Lib.hid q3; clear q1 q2 q3)
      | (go_at_call 7; refine (apply_step Q1.out 2 c (s + 1) k v1 [] HO5.out Q2.out 5 rfl (by simp [sx4]) (by simp [sx4]) (by simp [sx4]) _ (ap5 c s k B)).mono ?_; rintro e w3 ⟨v2, rfl, r1, r2, r3⟩; have d3 := r1.cell; have R1 := Lib.hid r1; have R2 := Lib.hid r2; have R3 := Lib.hid r3; clear r1 r2 r3))
    all_goals (clear wr; go_wp2_with fail; go_meet; case rel => exact ⟨v2, rfl, R1, R2, Lib.hid ((((Mod.refl no wc).drew.trans Q3.out).mono fun _ _ f => f.elim).trans R3.out)⟩)
  case rest =>
  as_aux_lemma =>
  obtain ⟨y5, rfl, H5, K5, hM⟩ := hcut
  clear hM c5 H4
  go_wp2_with fail
  have c6 := H5.out.mod (Mod.refl no wc).drew |>.cell
  go_cut [22] from 25 (fun sv W => ∃ v, sv = v ∧ Hid (Sh w W p a (sx6 c s k)) ∧ Hid (Kept a W v [7, 0]) ∧ Hid (Mod (shS a) wc W))
  case first =>
   as_aux_lemma =>
    have wr : IntKind.i64.wrap (s + 2) = (s + 2) := IntWalk.i64_in _ (by omega)
    go_region_held3 (fun W' => W'.cell? ⟨p, 2, none⟩ = some (P0 a.s)) (first | exact c6 | exact d2 | exact d3) (first
      | (go_at_call 8; refine (put_step (H5.out.mod (Mod.refl no wc).drew) 2 c (s + 2) k _ [] HO6.out (SlR.nil _ _)).mono ?_; rintro e w2 ⟨v1, rfl, q1, q2, q3⟩; have d2 := q1.cell; have Q1 := Lib.hid q1; have Q2 := Lib.hid q2; have Q3 := Lib.hid q3; clear q1 q2 q3)
      | (go_at_call 7; refine (apply_step Q1.out 2 c (s + 2) k v1 [] HO6.out Q2.out 6 rfl (by simp [sx5]) (by simp [sx5]) (by simp [sx5]) _ (ap6 c s k)).mono ?_; rintro e w3 ⟨v2, rfl, r1, r2, r3⟩; have d3 := r1.cell; have R1 := Lib.hid r1; have R2 := Lib.hid r2; have R3 := Lib.hid r3; clear r1 r2 r3))
    all_goals (clear wr; go_wp2_with fail; go_meet; case rel => exact ⟨v2, rfl, R1, R2, Lib.hid ((((Mod.refl no wc).drew.trans Q3.out).mono fun _ _ f => f.elim).trans R3.out)⟩)
  case rest =>
  as_aux_lemma =>
  obtain ⟨y6, rfl, H6, K6, hM⟩ := hcut
  have K5 := Lib.hid (K5.out.mod hM.out)
  clear hM c6 H5
  have cc := H6.out.cell
  go_wp2_with fail
  refine (get_step H6.out k _ (gt6 c s k)).mono ?_
  rintro e wc ⟨yn, rfl, h, k1, hm⟩
  have H6 := Lib.hid h
  have Kyn := Lib.hid k1
  have K5 := Lib.hid (K5.out.mod0 hm)
  have K6 := Lib.hid (K6.out.mod0 hm)
  clear h k1 hm cc
  go_wp2_with fail
  refine (same_is _ _ _ _ (K5.out.mod0 ((Mod.refl no wc).alloc (.cells #[.int .u8 0, .int .u8 0] 5))).1 (rowB wc [0, 0] 2 _ rfl rfl (by decide))).mono ?_
  rintro e wc ⟨rfl, hm⟩
  have H6 := Lib.hid (H6.out.mod (((Mod.refl no _).alloc (.cells #[.int .u8 0, .int .u8 0] 5)).trans hm))
  have K5 := Lib.hid (K5.out.mod0 (((Mod.refl no _).alloc (.cells #[.int .u8 0, .int .u8 0] 5)).trans hm))
  have K6 := Lib.hid (K6.out.mod0 (((Mod.refl no _).alloc (.cells #[.int .u8 0, .int .u8 0] 5)).trans hm))
  have Kyn := Lib.hid (Kyn.out.mod0 (((Mod.refl no _).alloc (.cells #[.int .u8 0, .int .u8 0] 5)).trans hm))
  clear hm
  go_wp2_with fail
  refine (same_is _ _ _ _ (K6.out.mod0 ((Mod.refl no wc).alloc (.cells #[.int .u8 7, .int .u8 0] 5))).1 (rowB wc [7, 0] 2 _ rfl rfl (by decide))).mono ?_
  rintro e wc ⟨rfl, hm⟩
  have H6 := Lib.hid (H6.out.mod (((Mod.refl no _).alloc (.cells #[.int .u8 7, .int .u8 0] 5)).trans hm))
  have K5 := Lib.hid (K5.out.mod0 (((Mod.refl no _).alloc (.cells #[.int .u8 7, .int .u8 0] 5)).trans hm))
  have K6 := Lib.hid (K6.out.mod0 (((Mod.refl no _).alloc (.cells #[.int .u8 7, .int .u8 0] 5)).trans hm))
  have Kyn := Lib.hid (Kyn.out.mod0 (((Mod.refl no _).alloc (.cells #[.int .u8 7, .int .u8 0] 5)).trans hm))
  clear hm
  have cc := H6.out.cell
  go_wp2_with fail
  refine (applied_step H6.out).mono ?_
  rintro e W ⟨rfl, hW⟩
  rw [hW]
  clear hW W
  go_wp2_with fail
  refine (lawKnown_ok wc).mono ?_
  rintro e W ⟨rfl, hm⟩
  have HM := Lib.hid (H6.out.2.2.1.trans hm)
  clear hm cc
  go_wp2_with fail
  go_ret
  exact ⟨rfl, HM.out⟩
end Go.Proofs.YtbloppbiojopaaaGreatDoor
