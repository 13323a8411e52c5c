/- Package haystackref1: numbers and rows as bytes. -/
import Derived.Test.YtbloppbiojopaaaGreatDoorOctW
set_option maxRecDepth 100000
namespace Go.Proofs.YtbloppbiojopaaaGreatDoor
open Go Go.RowKit

/-- New bytes. -/
def NewB (w w' : World) (v : Value) (l : List UInt8) : Prop := w'.ownsRow w.heap.size 5 1 v l.length (l.map encB) ∧ Mod no w w'

theorem NewB.rd {w w' : World} {v : Value} {l : List UInt8} (h : NewB w w' v l) : SlR w' encB v l := RowR.ofOwns h.1

theorem u64_and127 (t : Nat) (h : t < 4611686018427387905) : bits .and .u64 (t : Int) 127 = ((t % 128 : Nat) : Int) := by
  rw [show (127 : Int) = ((127 : Nat) : Int) from rfl, u64_and_nat t 127 (by omega) (by decide), show (127 : Nat) = 2 ^ 7 - 1 from rfl, Nat.and_two_pow_sub_one_eq_mod]

theorem u8_or128' (q : Nat) (h : q < 128) : bits .or .u8 (q : Int) 128 = ((q + 128 : Nat) : Int) := by
  rw [show (128 : Int) = ((128 : Nat) : Int) from rfl, u8_or_nat _ _ (by omega) (by decide)]
  congr 1
  rw [Nat.or_comm, nat_join 7 128 q (by decide) (by omega), Nat.add_comm]

theorem leb_pos (t : Nat) : 0 < (leb t).length := by
  by_cases h : t < 128
  · rw [leb_small h]; simp
  · rw [leb_big h]; simp

theorem enc1 (c : Nat) (h : c < 256) : [UInt8.ofNat c].map encB = [.int .u8 (c : Int)] := by rw [List.map_singleton, encB_ofNat c h]

set_option maxHeartbeats 1000000 in
theorem r1Num_any (n : Int) (w : World) (hn : n ≤ 9223372036854775807) :
    Calls Tryz.prog 116 #[.int .i64 n] w fun e w' => ∃ v, e = .returned v ∧ NewB w w' v (numEnc n) := by
  obtain ⟨m, hm⟩ : ∃ m, m = clampN n := ⟨_, rfl⟩
  have hmb : m ≤ 4611686018427387904 := by rw [hm]; exact clampN_le n
  have HM := Lib.hid hm
  have hcase : 4611686018427387904 < n ∧ m = 4611686018427387904 ∨ (0 < n ∧ n ≤ 4611686018427387904 ∧ n = m) ∨ (n ≤ 0 ∧ m = 0) := by
    rw [hm]; unfold clampN; omega
  clear hm
  obtain ⟨i0, hi, hz0, hz1, hz2⟩ := elB.info
  rcases hcase with ⟨h1, h2⟩ | ⟨h1, h3, h2⟩ | ⟨h1, h2⟩
  all_goals
    have HU := Lib.hid h2
    clear h2
    go_enter Tryz.func116, Tryz.ntmps116
    go_wp2
    go_loopw [3, 4] (fun u b wr => ∃ (t : Nat) (dn : List UInt8), t ≤ 4611686018427387904 ∧ u = .int .u64 t ∧ leb m = dn ++ leb t ∧ NewB w wr b dn) (fun u _ _ => (intOf u).toNat)
    case atStart => exact ⟨m, [], hmb, by rw [HU.out] <;> rfl, by simp, World.ownsRow_nil _ _ _ _, Mod.refl _ _⟩
    case round =>
      obtain ⟨t, dn, ht, rfl, hle, hown, hmod⟩ := hrel
      have hdn : dn.length ≤ 8 := by
        have h1 := numEnc_len n
        have h2 := leb_pos t
        unfold numEnc at h1
        rw [← HM.out, hle, List.length_append] at h1
        omega
      have HO := Lib.hid hown
      have HMD := Lib.hid hmod
      have HLE := Lib.hid hle
      obtain ⟨A3, c3, rfl⟩ := owns_slice hown
      have hsz := hmod.size
      clear hown hmod hle
      by_cases hsm : t < 128
      · have hl : leb t = [UInt8.ofNat t] := leb_small hsm
        have HLT := Lib.hid hl
        have h256 : (t : Int) % 256 = t := by omega
        clear hl
        go_wp2_with (at_builtin; refine app_law elB rfl rfl (HO.out.alloc _) (RowR.made wr [.int .u8 (t : Int)] 5 1 (by omega)) rfl rfl (by simp) (by simp [Value.oneCell']) (by omega) (by unfold maxLen; omega) (by simp; omega) ?_; intro v' w' h1 h2 h3 h4; obtain ⟨A2, c2, rfl⟩ := owns_slice h1)
        go_ret
        refine ⟨_, rfl, ?_⟩
        have e2 : numEnc n = dn ++ [UInt8.ofNat t] := by unfold numEnc; rw [← HM.out, HLE.out, HLT.out]
        rw [e2]
        have hm2 : Mod no wr (wr.alloc (.cells #[.int .u8 (t : Int)] 5)) := (Mod.refl no wr).alloc _
        refine ⟨?_, (HMD.out.trans hm2).andThen h2 (fun i hi h => ?_)⟩
        · have := h1
          rw [← enc1 t (by omega), ← List.map_append] at this
          simpa using this
        · have := (HO.out.lt i h.symm).1; omega
      · have hb1 := u64_and127 t (by omega)
        obtain ⟨q, hq⟩ : ∃ q, q = t % 128 := ⟨_, rfl⟩
        rw [← hq] at hb1
        have hq128 : q < 128 := by omega
        have h256 : (q : Int) % 256 = q := by omega
        have hb2 := u8_or128' q hq128
        obtain ⟨c, hc⟩ : ∃ c, c = q + 128 := ⟨_, rfl⟩
        rw [← hc] at hb2
        have HC : Hid (c = t % 128 + 128) := Lib.hid (by omega)
        have hc256 : c < 256 := by omega
        clear hc hq
        go_wp2_with (at_builtin; refine app_law elB rfl rfl (HO.out.alloc _) (RowR.made wr [.int .u8 (c : Int)] 5 1 (by omega)) rfl rfl (by simp) (by simp [Value.oneCell']) (by omega) (by unfold maxLen; omega) (by simp; omega) ?_; intro v' w' h1 h2 h3 h4; obtain ⟨A2, c2, rfl⟩ := owns_slice h1)
        go_roundw
        case rel =>
          have hm2 : Mod no wr (wr.alloc (.cells #[.int .u8 (c : Int)] 5)) := (Mod.refl no wr).alloc _
          refine ⟨t / 128, dn ++ [UInt8.ofNat c], by omega, by go_num, ?_, ?_, (HMD.out.trans hm2).andThen h2 (fun i hi h => ?_)⟩
          · rw [HLE.out, leb_big hsm, HC.out]; simp
          · have := h1
            rw [← enc1 c hc256, ← List.map_append] at this
            simpa using this
          · have := (HO.out.lt i h.symm).1; omega
        case measure => simp [intOf]; omega

theorem RowR.pos {α : Type} {w : World} {enc : α → Value} {A : Option Addr} {n cap : Nat} {l : List α} (h : SlR w enc (.slice A n cap) l) {k : Nat} (hk : k < l.length) :
    ∃ b off, A = some ⟨b, off, none⟩ ∧ w.cell? ⟨b, off + k, none⟩ = some (enc l[k]) := by
  obtain ⟨A1, c1, e1, -, -, h3, h4⟩ := h
  injection e1 with e1 e2 e3
  subst e1 e3
  cases A with
  | none => have := (h3 rfl).2; simp at this; subst this; simp at hk
  | some a =>
    obtain ⟨pb, off, sp⟩ := a
    obtain rfl : sp = none := (h4 _ rfl).1
    exact ⟨pb, off, rfl, (h4 _ rfl).2.2 k _ (by simp [hk])⟩

theorem no_false : ∀ k, ¬ no k := fun _ f => f

/-- What is appended to bytes of the call's own. -/
theorem NewB.app {w wr w1 w' : World} {v v' : Value} {l l' : List UInt8} (h : NewB w wr v l) (hm : Mod no wr w1) (h1 : w'.ownsRow w.heap.size 5 1 v' (l.length + l'.length) (l.map encB ++ l'.map encB)) (h2 : Mod (fun k => some k = v.ownBlock) w1 w') : NewB w w' v' (l ++ l') := by
  refine ⟨by simpa using h1, (h.2.trans hm).andThen h2 (fun i hi hs => ?_)⟩
  have := (h.1.lt i hs.symm).1; omega

set_option maxHeartbeats 1000000 in
theorem r1Nums_any (vp : Value) (ns : List Int) (w : World) (hp : SlR w encI vp ns) (hb : ∀ n ∈ ns, n ≤ 9223372036854775807) (hlen : ns.length ≤ 100000000) :
    Calls Tryz.prog 61 #[vp] w fun e w' => ∃ v, e = .returned v ∧ NewB w w' v (numsEnc ns) := by
  obtain ⟨A, cap, rfl, hp1, hp2, -⟩ := id hp
  have HP := Lib.hid hp
  have HB := Lib.hid hb
  unfold maxLen at hp2
  clear hp hb
  go_enter Tryz.func61, Tryz.ntmps61
  go_wp2
  go_loopw [3, 4] (fun v i wr => ∃ k : Nat, k ≤ ns.length ∧ i = .int .i64 k ∧ NewB w wr v (numsEnc (ns.take k))) (fun _ i _ => ns.length - (intOf i).toNat)
  case atStart => exact ⟨0, by omega, rfl, World.ownsRow_nil _ _ _ _, Mod.refl _ _⟩
  case round =>
    obtain ⟨k, hk, rfl, hst⟩ := hrel
    obtain ⟨M, hM⟩ : ∃ M, M = numsEnc (ns.take k) := ⟨_, rfl⟩
    rw [← hM] at hst
    have HS := Lib.hid hst
    obtain ⟨A3, c3, rfl⟩ := owns_slice hst.1
    have hML : M.length ≤ 900000000 := by rw [hM]; have := numsEnc_len (ns.take k); simp at this; omega
    have hsz := hst.2.size
    have HMM := Lib.hid hM
    clear hM hst
    by_cases hlt : k < ns.length
    · obtain ⟨pb, off, rfl, hc0⟩ := RowR.pos HP.out hlt
      have hc := HS.out.2.cell hc0 (no_false _)
      obtain ⟨n, hn⟩ : ∃ n, n = ns[k] := ⟨_, rfl⟩
      rw [← hn] at hc
      have HN := Lib.hid hn
      have hnb : n ≤ 9223372036854775807 := by rw [hn]; exact HB.out _ (List.getElem_mem hlt)
      clear hn hc0
      go_wp2_with fail
      refine (r1Num_any n wr hnb).mono ?_
      rintro e w1 ⟨v1, rfl, h1⟩
      have H1 := Lib.hid h1
      obtain ⟨A4, c4, rfl⟩ := owns_slice h1.1
      have hsz1 := h1.2.size
      have hl1 := numEnc_len n
      clear h1
      go_wp2_with (at_builtin; refine app_law elB rfl rfl (owns_mod HS.out.1 H1.out.2 (fun k _ => no_false k)) (RowR.ofOwns H1.out.1) rfl rfl (by simp) (encB_one _) (by omega) (by unfold maxLen; omega) (by omega) ?_; intro v' w' h1 h2 h3 h4; obtain ⟨A5, c5, rfl⟩ := owns_slice h1)
      go_roundw
      case rel =>
        have e2 : numsEnc (ns.take (k + 1)) = M ++ numEnc n := by
          rw [HMM.out, List.take_succ_eq_append_getElem hlt, HN.out]; simp only [numsEnc, List.flatMap_append, List.flatMap_cons, List.flatMap_nil, List.append_nil]
        refine ⟨k + 1, by omega, by go_num, ?_⟩
        rw [e2]
        exact NewB.app HS.out H1.out.2 h1 h2
      case measure => simp [intOf]; omega
    · obtain rfl : k = ns.length := by omega
      go_wp2
      go_ret
      refine ⟨_, rfl, ?_⟩
      have e2 : numsEnc ns = M := by rw [HMM.out, List.take_length]
      rw [e2]
      exact HS.out

theorem r1Bytes_any (vp : Value) (p : List UInt8) (w : World) (hp : SlR w encB vp p) (hlen : p.length ≤ 900000000) :
    Calls Tryz.prog 62 #[vp] w fun e w' => ∃ v, e = .returned v ∧ NewB w w' v (numEnc p.length ++ p) := by
  obtain ⟨A, cap, rfl, hp1, hp2, -⟩ := id hp
  have HP := Lib.hid hp
  unfold maxLen at hp2
  clear hp
  go_enter Tryz.func62, Tryz.ntmps62
  go_wp2_with fail
  refine (r1Num_any p.length w (by omega)).mono ?_
  rintro e w1 ⟨v1, rfl, h1⟩
  have H1 := Lib.hid h1
  obtain ⟨A4, c4, rfl⟩ := owns_slice h1.1
  have hsz1 := h1.2.size
  have hl1 := numEnc_len p.length
  clear h1
  go_wp2_with (at_builtin; refine app_law elB rfl rfl H1.out.1 (RowR.mod HP.out H1.out.2 (fun k _ => no_false k)) rfl rfl (by simp) (encB_one _) (by omega) (by unfold maxLen; omega) (by omega) ?_; intro v' w' h1 h2 h3 h4; obtain ⟨A5, c5, rfl⟩ := owns_slice h1)
  go_ret
  exact ⟨_, rfl, NewB.app H1.out (Mod.refl _ _) h1 h2⟩

theorem encB_beq (a b : UInt8) : ((a.toNat : Int) == (b.toNat : Int)) = decide (a = b) := by
  by_cases h : a = b
  · subst h; simp
  · have : ¬ a.toNat = b.toNat := fun e => h (UInt8.toNat_inj.1 e)
    simp [h]; omega

/-- The laws' comparison of two rows of bytes. -/
theorem same_any (va vb : Value) (a b : List UInt8) (w : World) (ha : SlR w encB va a) (hb : SlR w encB vb b) :
    Calls Tryz.prog 10 #[va, vb] w fun e w' => e = .returned (.bool (decide (a = b))) ∧ ∃ n, w' = w.drewN n := by
  obtain ⟨A, ca, rfl, ha1, ha2, -⟩ := id ha
  obtain ⟨B, cb, rfl, hb1, hb2, -⟩ := id hb
  have HA := Lib.hid ha
  have HB := Lib.hid hb
  unfold maxLen at ha2 hb2
  clear ha hb
  by_cases hl : a.length = b.length
  · have h1 : ((a.length : Int) == (b.length : Int)) = true := by simp; omega
    have h2 : ((a.length : Int) != (b.length : Int)) = false := by simp; omega
    have HL := Lib.hid hl
    clear hl
    go_enter Tryz.func10, Tryz.ntmps10
    go_wp2
    go_loopw [5] (fun i wr => ∃ k : Nat, k ≤ a.length ∧ i = .int .i64 k ∧ a.take k = b.take k ∧ ∃ n, wr = w.drewN n) (fun i _ => a.length - (intOf i).toNat)
    case atStart => exact ⟨0, by omega, rfl, rfl, 0, rfl⟩
    case round =>
      obtain ⟨k, hk, rfl, he, n, rfl⟩ := hrel
      have HE := Lib.hid he
      clear he
      by_cases hlt : k < a.length
      · have hltb : k < b.length := by have := HL.out; omega
        obtain ⟨pb, off, rfl, hc0⟩ := RowR.pos HA.out hlt
        obtain ⟨qb, qff, rfl, hd0⟩ := RowR.pos HB.out hltb
        have hx := encB_beq a[k] b[k]
        obtain ⟨x, hxe⟩ : ∃ x, x = a[k] := ⟨_, rfl⟩
        obtain ⟨y, hye⟩ : ∃ y, y = b[k] := ⟨_, rfl⟩
        rw [← hxe] at hc0 hx
        rw [← hye] at hd0 hx
        by_cases hxy : x = y
        · have hb2 : ((x.toNat : Int) != (y.toNat : Int)) = false := by rw [bne, hx]; simp [hxy]
          have HXY : Hid (a[k] = b[k]) := Lib.hid (by rw [← hxe, ← hye, hxy])
          clear hxe hye hxy hx
          go_wp2
          go_quiet (fail)
          go_wp2
          refine ⟨⟨k + 1, by omega, by go_num, ?_, _, rfl⟩, by simp [intOf]; omega⟩
          rw [List.take_succ_eq_append_getElem hlt, List.take_succ_eq_append_getElem hltb, HE.out, HXY.out]
        · have hb2 : ((x.toNat : Int) != (y.toNat : Int)) = true := by rw [bne, hx]; simp [hxy]
          have HXY : Hid (a[k] ≠ b[k]) := Lib.hid (by rw [← hxe, ← hye]; exact hxy)
          clear hxe hye hxy hx
          go_wp2
          go_quiet (fail)
          go_wp2
          go_ret
          have : ¬ a = b := fun e => HXY.out (by subst e; rfl)
          exact ⟨by simp [this], n + nq, by rw [World.drewN_drewN]⟩
      · obtain rfl : k = a.length := by omega
        go_wp2
        go_ret
        have : a = b := by
          have := HE.out
          rwa [List.take_length, HL.out, List.take_length] at this
        exact ⟨by simp [this], _, rfl⟩
  · have h1 : ((a.length : Int) == (b.length : Int)) = false := by simp; omega
    have h2 : ((a.length : Int) != (b.length : Int)) = true := by simp; omega
    go_enter Tryz.func10, Tryz.ntmps10
    go_wp2
    go_ret
    refine ⟨?_, 0, rfl⟩
    have : ¬ a = b := fun e => hl (by rw [e])
    simp [this]
end Go.Proofs.YtbloppbiojopaaaGreatDoor
