/- Package octet: the Writer. -/
import Derived.Test.YtbloppbiojopaaaGreatDoorOctB
import Derived.Test.YtbloppbiojopaaaGreatDoorOctSpec
set_option maxRecDepth 100000
namespace Go.Proofs.YtbloppbiojopaaaGreatDoor
open Go Go.RowKit

/-- A Writer at block b whose buffer is v: it holds l. -/
def IsWr (w : World) (b : Nat) (v : Value) (l : List UInt8) : Prop :=
  w.heap[b]? = some (.cells #[v] 108 (0, 0)) ∧ w.ownsRow 0 5 1 v l.length (l.map encB) ∧ v.ownBlock ≠ some b

/-- What a Writer turns: itself and its buffer. -/
def WrF (b : Nat) (v : Value) : Nat → Prop := fun k => k = b ∨ some k = v.ownBlock

theorem IsWr.mod {w w' : World} {S : Nat → Prop} {b : Nat} {v : Value} {l : List UInt8} (h : IsWr w b v l) (hm : Mod S w w') (h1 : ¬ S b) (h2 : ∀ k, v.ownBlock = some k → ¬ S k) : IsWr w' b v l :=
  ⟨hm.heap h.1 h1, owns_mod h.2.1 hm h2, h.2.2⟩

/-- Since w0, where its buffer was v0. -/
def WSt (w0 w : World) (b : Nat) (v0 : Value) (l : List UInt8) : Prop :=
  ∃ v, IsWr w b v l ∧ Mod (WrF b v0) w0 w ∧ (v.ownBlock = v0.ownBlock ∨ ∃ k, v.ownBlock = some k ∧ w0.heap.size ≤ k)

theorem WSt.refl {w : World} {b : Nat} {v : Value} {l : List UInt8} (h : IsWr w b v l) : WSt w w b v l := ⟨v, h, Mod.refl _ _, .inl rfl⟩

theorem WSt.trans {w0 w1 w2 : World} {b : Nat} {v0 v1 : Value} {l : List UInt8} (hm : Mod (WrF b v0) w0 w1) (hv : v1.ownBlock = v0.ownBlock ∨ ∃ k, v1.ownBlock = some k ∧ w0.heap.size ≤ k) (h : WSt w1 w2 b v1 l) : WSt w0 w2 b v0 l := by
  obtain ⟨v, h1, h2, h3⟩ := h
  refine ⟨v, h1, hm.andThen h2 (fun i hi hs => ?_), ?_⟩
  · rcases hs with rfl | hs
    · exact .inl rfl
    · rcases hv with hv | ⟨k, hk, hk2⟩
      · exact .inr (by rw [← hv]; exact hs)
      · rw [hk] at hs; injection hs with hs; omega
  · rcases h3 with h3 | ⟨k, hk, hk2⟩
    · rw [h3]; exact hv
    · exact .inr ⟨k, hk, Nat.le_trans hm.size hk2⟩

/-- What is left alone. -/
theorem WSt.mod {w0 w : World} {b : Nat} {v0 : Value} {l : List UInt8} (h : WSt w0 w b v0 l) : Mod (WrF b v0) w0 w := h.choose_spec.2.1

/-- Behind an append of a new row, stored back. -/
theorem WSt.appended {w0 w w1 w2 : World} {b : Nat} {v0 v v' : Value} {l l' : List UInt8} (hw : IsWr w b v l) (hm : Mod (WrF b v0) w0 w) (hv : v.ownBlock = v0.ownBlock ∨ ∃ k, v.ownBlock = some k ∧ w0.heap.size ≤ k)
    (ha : Mod no w w1) (h1 : w2.ownsRow 0 5 1 v' (l.length + l'.length) (l.map encB ++ l'.map encB)) (h2 : Mod (fun k => some k = v.ownBlock) w1 w2) (h4 : v'.ownBlock = v.ownBlock ∨ v'.ownBlock = some w1.heap.size) :
    WSt w0 (w2.setCell ⟨b, 0, none⟩ v') b v0 (l ++ l') := by
  refine WSt.trans hm hv ?_
  obtain ⟨g1, g2, g3⟩ := hw
  have hb := (Array.getElem?_eq_some_iff.1 g1).1
  have hne : v'.ownBlock ≠ some b := by
    rcases h4 with h4 | h4
    · rw [h4]; exact g3
    · rw [h4]; intro e; injection e with e; have := ha.size; omega
  have g4 := h2.heap (ha.heap g1 (fun f => f)) (fun e => g3 e.symm)
  refine ⟨v', ⟨heap_setCell_same g4 v', ?_, hne⟩, ?_, ?_⟩
  · have := owns_mod h1 ((Mod.refl (only b) w2).put (i := 0) (only_self b) v') (fun k hk e => hne (by rw [hk]; congr))
    simpa using this
  · exact (((ha.mono (T := WrF b v) (fun _ _ f => f.elim)).andThen h2 (fun i _ h => .inr h)).put (.inl rfl) _)
  · rcases h4 with h4 | h4
    · exact .inl h4
    · exact .inr ⟨_, h4, ha.size⟩

theorem WRaw_any (b : Nat) (v vp : Value) (l p : List UInt8) (w : World) (h : IsWr w b v l) (hp : SlR w encB vp p) (hlen : l.length + p.length ≤ 1000000000) :
    Calls Tryz.prog 102 #[P0 b, vp] w fun e w' => e = .returned (.tuple #[]) ∧ WSt w w' b v (l ++ p) := by
  have H := Lib.hid h
  obtain ⟨A, cap, rfl⟩ := owns_slice h.2.1
  have c0 : w.cell? ⟨b, 0, none⟩ = some _ := cell_of_heap h.1
  have f0 : w.frozen? ⟨b, 0, none⟩ = false := free_of_heap h.1
  clear h
  obtain ⟨A', cap', hv, -⟩ := id hp
  have HP := Lib.hid hp
  subst hv
  clear hp
  go_enter Tryz.func102, Tryz.ntmps102
  go_wp2_with (at_builtin; refine app_law elB rfl rfl H.out.2.1 HP.out rfl rfl (by simp) (encB_one p) (by omega) (by unfold maxLen; omega) (by omega) ?_; intro v' w' h1 h2 h3 h4; obtain ⟨A2, c2, rfl⟩ := owns_slice h1; have c3 := h2.cell c0 (fun e => H.out.2.2 e.symm); have f3 : w'.frozen? ⟨b, 0, none⟩ = false := free_of_heap (h2.heap H.out.1 (fun e => H.out.2.2 e.symm)))
  go_end0
  exact ⟨rfl, WSt.appended H.out (Mod.refl _ _) (.inl rfl) (Mod.refl _ _) h1 h2 h4⟩

theorem WOut_any (b : Nat) (v : Value) (l : List UInt8) (w : World) (h : IsWr w b v l) (hlen : l.length ≤ 1000000000) :
    Calls Tryz.prog 50 #[P0 b] w fun e w' => ∃ v', e = .returned v' ∧ w'.ownsRow w.heap.size 5 1 v' l.length (l.map encB) ∧ Mod no w w' := by
  have H := Lib.hid h
  have c0 : w.cell? ⟨b, 0, none⟩ = some _ := cell_of_heap h.1
  obtain ⟨A, cap, rfl⟩ := owns_slice h.2.1
  clear h
  go_enter Tryz.func50, Tryz.ntmps50
  go_wp2_with (go_at_call 26; refine (bClone_any _ l w (RowR.ofOwns H.out.2.1) (by omega)).mono ?_; rintro e w' ⟨v', rfl, h1, h2, h3⟩)
  go_ret
  exact ⟨_, rfl, h1, h2⟩

theorem leb_bits (u : Nat) (_h : u < 4611686018427387905) : bits .or .u8 ((u : Int) % 256) 128 = ((u % 128 + 128 : Nat) : Int) := by
  rw [show ((u : Int) % 256) = ((u % 256 : Nat) : Int) from by simp, show (128 : Int) = ((128 : Nat) : Int) from rfl, u8_or_nat _ _ (by omega) (by decide)]
  congr 1
  have h1 : u % 256 = u / 128 % 2 * 128 + u % 128 := by omega
  rcases Nat.mod_two_eq_zero_or_one (u / 128) with h2 | h2
  · rw [h1, h2, Nat.or_comm]
    have := nat_join 7 128 (u % 128) (by decide) (by omega)
    simp; omega
  · rw [h1, h2]
    have e1 : (1 * 128 + u % 128) = 128 ||| (u % 128) := by rw [nat_join 7 128 (u % 128) (by decide) (by omega)]
    rw [e1, Nat.or_comm, ← Nat.or_assoc, Nat.or_self, nat_join 7 128 (u % 128) (by decide) (by omega)]
    omega

theorem encB_ofNat (n : Nat) (h : n < 256) : encB (UInt8.ofNat n) = .int .u8 (n : Int) := by
  simp only [encB]
  congr 2
  simp; omega

set_option maxHeartbeats 1000000 in
theorem WNums_any (b : Nat) (v vp : Value) (l : List UInt8) (ns : List Int) (w : World) (h : IsWr w b v l) (hp : SlR w encI vp ns) (hx : ∀ k, vp.ownBlock = some k → ¬ WrF b v k) (hlen : l.length + 9 * ns.length ≤ 2000000000) :
    Calls Tryz.prog 48 #[P0 b, vp] w fun e w' => e = .returned (.tuple #[]) ∧ WSt w w' b v (l ++ numsEnc ns) := by
  have H := Lib.hid h
  clear h
  obtain ⟨A', cap', hv, hp1, hp2, hp3, hp4⟩ := id hp
  have HP := Lib.hid hp
  have HX := Lib.hid hx
  subst hv
  clear hp hp3 hp4 hx
  unfold maxLen at hp2
  go_enter Tryz.func48, Tryz.ntmps48
  go_wp2
  go_loopw [11] (fun i wr => ∃ k : Nat, k ≤ ns.length ∧ i = .int .i64 k ∧ WSt w wr b v (l ++ numsEnc (ns.take k))) (fun i _ => ns.length - (intOf i).toNat)
  case atStart => exact ⟨0, by omega, rfl, by simpa [numsEnc] using WSt.refl H.out⟩
  case round =>
    obtain ⟨k, hk, rfl, hst⟩ := hrel
    by_cases hlt : k < ns.length
    · obtain ⟨A1, c1, e1, -, -, h3, h4⟩ := HP.out
      injection e1 with e1 e2 e3
      subst e1 e3
      obtain ⟨pb, off, rfl⟩ : ∃ pb off, A' = some ⟨pb, off, none⟩ := by
        cases A' with
        | none => have := (h3 rfl).2; simp at this; subst this; simp at hlt
        | some a => obtain ⟨pb, off, sp⟩ := a; obtain rfl : sp = none := (h4 _ rfl).1; exact ⟨pb, off, rfl⟩
      have hx : wr.cell? ⟨pb, off + k, none⟩ = some (.int .i64 ns[k]) := hst.mod.cell ((h4 _ rfl).2.2 k _ (by simp [hlt])) (HX.out pb rfl)
      have hl1 : (l ++ numsEnc (ns.take k)).length ≤ 2000000000 - 9 := by
        have := numsEnc_len (ns.take k)
        rw [List.length_append]; simp at this; omega
      have hsn : l ++ numsEnc (ns.take (k + 1)) = l ++ numsEnc (ns.take k) ++ leb (clampN ns[k]) := by
        rw [List.take_succ_eq_append_getElem hlt]; simp only [numsEnc, List.flatMap_append, List.flatMap_cons, List.flatMap_nil, List.append_nil, numEnc, List.append_assoc]
      have HSN := Lib.hid hsn
      have HST := Lib.hid hst
      obtain ⟨L, hL⟩ : ∃ L, L = l ++ numsEnc (ns.take k) := ⟨_, rfl⟩
      rw [← hL] at hl1
      have HL := Lib.hid hL
      obtain ⟨n, hn⟩ : ∃ n, n = ns[k] := ⟨_, rfl⟩
      rw [← hn] at hx
      have HN := Lib.hid hn
      clear hn hL hst hsn h3 h4
      have hcv : max 0 (min n 4611686018427387904) = (clampN n : Int) := by unfold clampN; omega
      obtain ⟨m, hm⟩ : ∃ m, m = clampN n := ⟨_, rfl⟩
      rw [← hm] at hcv
      have hmb : m ≤ 4611686018427387904 := by rw [hm]; exact clampN_le n
      have HM := Lib.hid hm
      clear hm
      all_goals
        go_wp2
        go_loopw [6] (fun u wq => ∃ (t : Nat) (dn : List UInt8), t ≤ 4611686018427387904 ∧ u = .int .u64 t ∧ leb m = dn ++ leb t ∧ WSt w wq b v (L ++ dn)) (fun u _ => (intOf u).toNat)
        case atStart => exact ⟨m, [], hmb, rfl, by simp, by rw [List.append_nil, HL.out]; exact HST.out⟩
        case round =>
          obtain ⟨t, dn, ht, rfl, hle, hst⟩ := hrel
          have hdn : dn.length ≤ 8 := by
            have h1 := numEnc_len n
            unfold numEnc at h1
            rw [← HM.out, hle, List.length_append] at h1
            have h2 : 0 < (leb t).length := by
              by_cases h : t < 128
              · rw [leb_small h]; simp
              · rw [leb_big h]; simp
            omega
          obtain ⟨M, hM⟩ : ∃ M, M = L ++ dn := ⟨_, rfl⟩
          have hML : M.length ≤ 2000000000 - 1 := by rw [hM, List.length_append]; omega
          rw [← hM] at hst
          have HMM := Lib.hid hM
          clear hM
          obtain ⟨v1, hw1, hm1, hv1⟩ := hst
          have H1 := Lib.hid hw1
          obtain ⟨A3, c3, rfl⟩ := owns_slice hw1.2.1
          have c0 : wr.cell? ⟨b, 0, none⟩ = some _ := cell_of_heap hw1.1
          have f0 : wr.frozen? ⟨b, 0, none⟩ = false := free_of_heap hw1.1
          have HLE := Lib.hid hle
          have HM1 := Lib.hid hm1
          have HV1 := Lib.hid hv1
          clear hle hw1 hm1 hv1
          by_cases hsm : t < 128
          · have hl : leb t = [UInt8.ofNat t] := leb_small hsm
            have HLT := Lib.hid hl
            have h256 : (t : Int) % 256 = t := by omega
            clear hl
            go_wp2_with (at_builtin; refine app_law elB rfl rfl (H1.out.2.1.alloc _) (RowR.made wr [.int .u8 (t : Int)] 5 1 (by omega)) rfl rfl (by simp) (by simp [Value.oneCell']) (by omega) (by unfold maxLen; omega) (by omega) ?_; intro v' w' h1 h2 h3 h4; obtain ⟨A2, c2, rfl⟩ := owns_slice h1; have hm2 : Mod no wr (wr.alloc (.cells #[.int .u8 (t : Int)] 5)) := (Mod.refl no wr).alloc _; have cc := h2.cell (hm2.cell c0 (fun f => f)) (fun e => H1.out.2.2 e.symm); have ff : w'.frozen? ⟨b, 0, none⟩ = false := free_of_heap (h2.heap (hm2.heap H1.out.1 (fun f => f)) (fun e => H1.out.2.2 e.symm)))
            go_roundw
            case rel =>
              have e1 : [UInt8.ofNat t].map encB = [.int .u8 (t : Int)] := by rw [List.map_singleton, encB_ofNat t (by omega)]
              refine ⟨k + 1, by omega, by go_num, ?_⟩
              have e2 : l ++ numsEnc (ns.take (k + 1)) = M ++ [UInt8.ofNat t] := by
                rw [HSN.out, ← HL.out, ← HN.out, ← HM.out, HLE.out, HLT.out, HMM.out, List.append_assoc]
              rw [e2]
              exact WSt.appended H1.out HM1.out HV1.out hm2 (by rw [e1]; exact h1) h2 h4
            case measure => simp [intOf]; omega
          · have hbt := leb_bits t (by omega)
            obtain ⟨c, hc⟩ : ∃ c, c = t % 128 + 128 := ⟨_, rfl⟩
            rw [← hc] at hbt
            have HC := Lib.hid hc
            clear hc
            go_wp2_with (at_builtin; refine app_law elB rfl rfl (H1.out.2.1.alloc _) (RowR.made wr [.int .u8 (c : Int)] 5 1 (by omega)) rfl rfl (by simp) (by simp [Value.oneCell']) (by omega) (by unfold maxLen; omega) (by omega) ?_; intro v' w' h1 h2 h3 h4; obtain ⟨A2, c2, rfl⟩ := owns_slice h1; have hm2 : Mod no wr (wr.alloc (.cells #[.int .u8 (c : Int)] 5)) := (Mod.refl no wr).alloc _; have cc := h2.cell (hm2.cell c0 (fun f => f)) (fun e => H1.out.2.2 e.symm); have ff : w'.frozen? ⟨b, 0, none⟩ = false := free_of_heap (h2.heap (hm2.heap H1.out.1 (fun f => f)) (fun e => H1.out.2.2 e.symm)))
            go_roundw
            case rel => 
              have e1 : [UInt8.ofNat c].map encB = [.int .u8 (c : Int)] := by rw [List.map_singleton, encB_ofNat c (by have := HC.out; omega)]
              refine ⟨t / 128, dn ++ [UInt8.ofNat c], by omega, by go_num, ?_, ?_⟩
              · rw [HLE.out, leb_big hsm, HC.out]; simp
              · rw [← List.append_assoc, ← HMM.out]
                exact WSt.appended H1.out HM1.out HV1.out hm2 (by rw [e1]; exact h1) h2 h4
            case measure => simp [intOf]; omega
    · obtain rfl : k = ns.length := by omega
      rw [List.take_length] at hst
      have HS := Lib.hid hst
      clear hst
      go_wp2
      go_end0
      exact ⟨rfl, HS.out⟩

/-- A slice of rows of bytes. -/
def RowsR (w : World) (vp : Value) (vals : List Value) (rows : List (List UInt8)) : Prop :=
  RowR w vp rows.length vals ∧ vals.length = rows.length ∧ ∀ (i : Nat) (v : Value) (r : List UInt8), vals[i]? = some v → rows[i]? = some r → SlR w encB v r

def rowsEnc (rows : List (List UInt8)) : List UInt8 := rows.flatMap fun r => numEnc r.length ++ r

theorem rowsEnc_snoc (rows : List (List UInt8)) (k : Nat) (h : k < rows.length) : rowsEnc (rows.take (k + 1)) = rowsEnc (rows.take k) ++ (numEnc rows[k].length ++ rows[k]) := by
  rw [List.take_succ_eq_append_getElem h]; simp only [rowsEnc, List.flatMap_append, List.flatMap_cons, List.flatMap_nil, List.append_nil]

theorem rowsEnc_le (rows : List (List UInt8)) (k : Nat) : (rowsEnc (rows.take k)).length ≤ (rowsEnc rows).length := by
  have h : rowsEnc (rows.take k) ++ rowsEnc (rows.drop k) = rowsEnc rows := by unfold rowsEnc; rw [← List.flatMap_append, List.take_append_drop]
  rw [← h, List.length_append]; omega

set_option maxHeartbeats 1000000 in
theorem WBytes_any (b : Nat) (v vp : Value) (l : List UInt8) (vals : List Value) (rows : List (List UInt8)) (w : World) (h : IsWr w b v l) (hp : RowsR w vp vals rows)
    (hx : ∀ k, vp.ownBlock = some k → ¬ WrF b v k) (hy : ∀ u ∈ vals, ∀ k, u.ownBlock = some k → ¬ WrF b v k) (hlen : l.length + (rowsEnc rows).length ≤ 1000000000) :
    Calls Tryz.prog 49 #[P0 b, vp] w fun e w' => e = .returned (.tuple #[]) ∧ WSt w w' b v (l ++ rowsEnc rows) := by
  have H := Lib.hid h
  clear h
  obtain ⟨A', cap', hv, hp1, hp2, hp3, hp4⟩ := id hp.1
  have HP := Lib.hid hp
  have HX := Lib.hid hx
  have HY := Lib.hid hy
  subst hv
  clear hp hp3 hp4 hx hy
  unfold maxLen at hp2
  go_enter Tryz.func49, Tryz.ntmps49
  go_wp2
  go_loopw [8] (fun i wr => ∃ k : Nat, k ≤ rows.length ∧ i = .int .i64 k ∧ WSt w wr b v (l ++ rowsEnc (rows.take k))) (fun i _ => rows.length - (intOf i).toNat)
  case atStart => exact ⟨0, by omega, rfl, by simpa [rowsEnc] using WSt.refl H.out⟩
  case round =>
    obtain ⟨k, hk, rfl, hst⟩ := hrel
    by_cases hlt : k < rows.length
    · obtain ⟨⟨A1, c1, e1, -, -, h3, h4⟩, hvl, hrd⟩ := HP.out
      injection e1 with e1 e2 e3
      subst e1 e3
      have hkv : k < vals.length := by omega
      obtain ⟨pb, off, rfl⟩ : ∃ pb off, A' = some ⟨pb, off, none⟩ := by
        cases A' with
        | none => have := (h3 rfl).2; subst this; simp at hkv
        | some a => obtain ⟨pb, off, sp⟩ := a; obtain rfl : sp = none := (h4 _ rfl).1; exact ⟨pb, off, rfl⟩
      have hsl := hrd k vals[k] rows[k] (by simp [hkv]) (by simp [hlt])
      have hcell := hst.mod.cell ((h4 _ rfl).2.2 k vals[k] (by simp [hkv])) (HX.out pb rfl)
      have hsl2 := RowR.mod hsl hst.mod (HY.out _ (List.getElem_mem hkv))
      have hy2 := HY.out _ (List.getElem_mem hkv)
      have hyl := RowR.lt hsl
      have hsn := rowsEnc_snoc rows k hlt
      have hle := rowsEnc_le rows (k + 1)
      obtain ⟨q, hrw⟩ : ∃ q, q = rows[k] := ⟨_, rfl⟩
      obtain ⟨vv, hvv⟩ : ∃ vv, vv = vals[k] := ⟨_, rfl⟩
      rw [← hrw] at hsl2 hsn
      rw [← hvv] at hsl2 hcell hy2 hyl
      have HYL := Lib.hid hyl
      clear hyl
      obtain ⟨Av, cv, rfl, -⟩ := id hsl2
      obtain ⟨M, hM⟩ : ∃ M, M = l ++ rowsEnc (rows.take k) := ⟨_, rfl⟩
      have hML : M.length + (9 + q.length) ≤ 1000000000 + 9 := by
        rw [hsn] at hle; rw [hM]; simp only [List.length_append] at hle ⊢; omega
      have hML2 : M.length + (numEnc q.length).length + q.length ≤ 1000000000 := by
        rw [hsn] at hle; rw [hM]; simp only [List.length_append] at hle ⊢; omega
      rw [← hM] at hst
      have HM := Lib.hid hM
      have HSN := Lib.hid hsn
      obtain ⟨v1, hw1, hm1, hv1⟩ := hst
      have H1 := Lib.hid hw1
      have HM1 := Lib.hid hm1
      have HV1 := Lib.hid hv1
      have HS2 := Lib.hid hsl2
      have HY2 := Lib.hid hy2
      clear hM hsn hle hrd hvl h3 h4 hsl hrw hvv hw1 hm1 hv1 hsl2 hy2
      have hma : Mod no wr (wr.alloc (.cells #[.int .i64 (q.length : Int)] 3)) := (Mod.refl no wr).alloc _
      have hbl := (Array.getElem?_eq_some_iff.1 H1.out.1).1
      have hng : ∀ j, (Value.slice (some ⟨wr.heap.size, 0, none⟩) 1 1).ownBlock = some j → ¬ WrF b v1 j := by
        intro j hj hf
        simp [Value.ownBlock] at hj
        rcases hf with hf | hf
        · omega
        · have := (H1.out.2.1.lt j hf.symm).2; omega
      go_wp2_with fail
      refine (WNums_any b v1 _ M [(q.length : Int)] _ (IsWr.mod H1.out hma (fun f => f) (fun _ _ f => f)) (RowR.made wr [.int .i64 (q.length : Int)] 3 1 (by omega)) hng (by simp; omega)).mono ?_
      rintro e w' ⟨rfl, hw2⟩
      have HW2 := Lib.hid hw2
      clear hw2 hma hng
      go_wp2_with fail
      obtain ⟨v2, hw2, hm2, hv2⟩ := HW2.out
      have hy3 : ∀ j, (Value.slice Av q.length cv).ownBlock = some j → ¬ WrF b v1 j := by
        intro j hj hf
        rcases hf with hf | hf
        · exact HY2.out j hj (.inl hf)
        · rcases HV1.out with hv | ⟨i, hi, hi2⟩
          · exact HY2.out j hj (.inr (by rw [hf, hv]))
          · have := HYL.out j hj
            rw [hi] at hf; injection hf with hf; omega
      refine (WRaw_any b v2 _ _ q _ hw2 (RowR.mod (RowR.mod HS2.out ((Mod.refl no wr).alloc _) (fun _ _ f => f)) hm2 hy3) (by simp [numsEnc]; omega)).mono ?_
      rintro e w'' ⟨rfl, hw3⟩
      have HW3 := Lib.hid hw3
      clear hw3 hw2
      have HM2 := Lib.hid hm2
      have HV2 := Lib.hid hv2
      clear hm2 hv2
      go_wp2_with fail
      go_roundw
      case rel =>
        refine ⟨k + 1, by omega, by go_num, ?_⟩
        have e2 : l ++ rowsEnc (rows.take (k + 1)) = M ++ numsEnc [(q.length : Int)] ++ q := by
          rw [HSN.out, HM.out]; simp [numsEnc]
        rw [e2]
        exact WSt.trans (HM1.out.alloc _) HV1.out (WSt.trans HM2.out HV2.out HW3.out)
      case measure => simp [intOf]; omega
    · obtain rfl : k = rows.length := by omega
      rw [List.take_length] at hst
      have HS := Lib.hid hst
      clear hst
      go_wp2
      go_end0
      exact ⟨rfl, HS.out⟩
end Go.Proofs.YtbloppbiojopaaaGreatDoor
