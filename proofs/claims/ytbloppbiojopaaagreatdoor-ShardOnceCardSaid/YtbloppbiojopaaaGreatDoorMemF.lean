/- Package mem: Docs. -/
import Derived.Test.YtbloppbiojopaaaGreatDoorMemE
set_option maxRecDepth 100000
namespace Go.Proofs.YtbloppbiojopaaaGreatDoor
open Go Go.RowKit Go.Shelf Go.Lib Go.Sort

theorem elDoc : ElemOk Tryz.prog 111 115 (.agg #[.string ⟨#[]⟩, .slice none 0 0]) 2 40 :=
  have ⟨i, hi, h1, h2, h3⟩ := info_parts (P := Tryz.prog) (e := 115) (z := .agg #[.string ⟨#[]⟩, .slice none 0 0]) (size := 2) (bytes := 40) (by kernel_rfl)
  ⟨Tryz.underlying111, ⟨i, hi, h1, h2, h3⟩, rfl, by decide⟩

/-- The cells of documents: keys, and where their texts lie. -/
def docCells (ks : List (List UInt8)) (vs : List Value) : List Value := (ks.zip vs).flatMap fun p => [encStr p.1, p.2]

/-- The texts of keys. -/
def textOf (l : Tab) (k : List UInt8) : List UInt8 := (tabGet ⟨k.toArray⟩ l).1

/-- Documents, in a row of the call's own. -/
def DocsN (w W : World) (l : Tab) (v : Value) (ks : List (List UInt8)) : Prop :=
  ∃ vs : List Value, vs.length = ks.length ∧ W.ownsRow w.heap.size 115 2 v ks.length (docCells ks vs) ∧
    (∀ j (h1 : j < ks.length) (h2 : j < vs.length), SlR W encB vs[j] (textOf l ks[j]) ∧ ∀ b, vs[j].ownBlock = some b → w.heap.size ≤ b ∧ v.ownBlock ≠ some b) ∧ Mod no w W

theorem docCells_snoc (ks : List (List UInt8)) (vs : List Value) (k : List UInt8) (v : Value) (h : vs.length = ks.length) : docCells (ks ++ [k]) (vs ++ [v]) = docCells ks vs ++ [encStr k, v] := by
  unfold docCells
  rw [List.zip_append h.symm, List.flatMap_append]
  simp

set_option maxHeartbeats 1000000 in
theorem memDocs_any (F : Nat → Prop) (t mb : Nat) (l : Tab) (w : World) (h : TabR w F t mb l) (hn : (l.map (·.1)).Nodup) (hs : l.length ≤ 1000000) (hb : ∀ p ∈ l, p.1.size ≤ 1000000) :
    Calls Tryz.prog 57 #[P0 t] w fun e w' => ∃ v, e = .returned v ∧ DocsN w w' l v (tabKeys l true) := by
  have H := Lib.hid h
  have HN := Lib.hid hn
  have HB := Lib.hid hb
  obtain ⟨ks, hks⟩ : ∃ ks, ks = tabKeys l true := ⟨_, rfl⟩
  have hkl : ks.length ≤ l.length := by
    rw [hks, tabKeys]
    refine Nat.le_trans (List.length_filter_le _ _) ?_
    rw [List.length_mergeSort]; simp [keyBytes]
  rw [← hks]
  have HKS := Lib.hid hks
  clear h hn hb hks
  go_enter Tryz.func57, Tryz.ntmps57
  go_wp2_with fail
  refine (memKeys_any F t mb l true w H.out HN.out hs HB.out).mono ?_
  rintro e w1 ⟨v, rfl, hv, hm1⟩
  rw [← HKS.out] at hv
  obtain ⟨A, cap, rfl, hv1, hv2, -⟩ := id hv
  have HV := Lib.hid hv
  have HM1 := Lib.hid hm1
  have HT1 := Lib.hid (H.out.mod hm1 (no_false _) (no_false _) (fun _ _ => no_false _))
  have hsz1 := hm1.size
  unfold maxLen at hv2
  clear hv hm1
  go_wp2_with fail
  go_loopw [3, 9] (fun v i wr => ∃ k : Nat, k ≤ ks.length ∧ i = .int .i64 k ∧ DocsN w1 wr l v (ks.take k)) (fun _ i _ => ks.length - (intOf i).toNat)
  case atStart => exact ⟨0, by omega, rfl, ⟨[], rfl, World.ownsRow_nil _ _ _ _, (fun j h1 h2 => by simp at h2), Mod.refl _ _⟩⟩
  case round =>
    obtain ⟨k, hk, rfl, hst⟩ := hrel
    have hm : Mod no w1 wr := hst.choose_spec.2.2.2
    have HS := Lib.hid hst
    have HM := Lib.hid hm
    obtain ⟨A3, c3, rfl⟩ := owns_slice hst.choose_spec.2.1
    have hkk : (ks.take k).length = k := by simp; omega
    rw [hkk]
    clear hst hm
    by_cases hlt : k < ks.length
    · obtain ⟨pb, off, rfl, hc0⟩ := RowR.pos HV.out hlt
      have hc := HM.out.cell hc0 (no_false _)
      obtain ⟨key, hkey⟩ : ∃ key, key = ks[k] := ⟨_, rfl⟩
      rw [← hkey] at hc
      have HKEY := Lib.hid hkey
      clear hkey hc0
      obtain ⟨raw, hraw, hents⟩ := (HT1.out.mod HM.out (no_false _) (no_false _) (fun _ _ => no_false _)).2.2.2.2
      obtain ⟨A5, c5, he5, hsl5, hl5⟩ := raw_known hents ⟨key.toArray⟩
      have ct := cell_of_heap (i := 0) (HT1.out.mod HM.out (no_false _) (no_false _) (fun _ _ => no_false _)).1
      simp only [List.getElem?_toArray, List.getElem?_cons_zero] at ct
      obtain ⟨tx, htx⟩ : ∃ tx, tx = (tabGet ⟨key.toArray⟩ l).1 := ⟨_, rfl⟩
      obtain ⟨kn, hkn⟩ : ∃ kn, kn = (tabGet ⟨key.toArray⟩ l).2.1 := ⟨_, rfl⟩
      rw [← htx, ← hkn] at he5
      rw [← htx] at hsl5 hl5
      have hf := fun W => fieldKnown0 A5 tx.length c5 kn W
      have HE := Lib.hid he5
      have HSL := Lib.hid hsl5
      have HMAP := Lib.hid hraw
      have HTX := Lib.hid htx
      clear hraw hents he5 hsl5 htx hkn
      go_wp2_with (at_lookup; refine wp_lookup keyS Tryz.underlying143 zeroKnown HMAP.out ⟨key.toArray⟩ rfl rfl rfl rfl ?_; rw [HE.out])
      refine (bClone_any _ tx wr HSL.out (by omega)).mono ?_
      rintro e w2 ⟨v2, rfl, hv2', hm2, -⟩
      obtain ⟨A6, c6, rfl⟩ := owns_slice hv2'
      obtain ⟨vs, hvl, hown, hvs, hmm⟩ := HS.out
      rw [hkk] at hvl hown
      have hwr := hmm.size
      have hw2 := hm2.size
      have h2b := owns_block hv2'
      have hm3 := (Mod.refl no w2).alloc (.cells #[encStr key, .slice A6 tx.length c6] 115)
      have hown3 := owns_mod hown (hm2.trans hm3) (fun j _ => no_false j)
      have hrow := RowR.madeAt w2 [encStr key, .slice A6 tx.length c6] 115 1 w2.heap.size rfl (by omega)
      have HOWN := Lib.hid hown
      have HOWN3 := Lib.hid hown3
      have HROW := Lib.hid hrow
      have HVS := Lib.hid hvs
      have HMM := Lib.hid hmm
      have HM2 := Lib.hid hm2
      have HV2 := Lib.hid hv2'
      have H2B := Lib.hid h2b
      have HVL := Lib.hid hvl
      clear hown hown3 hrow hvs hmm hm2 hv2' h2b hvl hm3 hf
      go_wp2_with (at_builtin; refine app_law elDoc rfl rfl HOWN3.out HROW.out rfl rfl (by simp) (by intro u hu; simp at hu; rcases hu with rfl | rfl <;> rfl) (by omega) (by unfold maxLen; omega) (by simp; omega) ?_; intro v' w' h1 h2 h3 h4; obtain ⟨A7, c7, rfl⟩ := owns_slice h1)
      go_roundw
      case rel =>
        have htk : ks.take (k + 1) = ks.take k ++ [key] := by rw [List.take_succ_eq_append_getElem hlt, HKEY.out]
        have hlen1 : (ks.take (k + 1)).length = k + 1 := by simp; omega
        have hm3 : Mod no wr (w2.alloc (.cells #[encStr key, .slice A6 tx.length c6] 115)) := HM2.out.alloc _
        have hw3 : (w2.alloc (.cells #[encStr key, .slice A6 tx.length c6] 115)).heap.size = w2.heap.size + 1 := by simp
        have hA3 : ∀ j, (Value.slice A3 k c3).ownBlock = some j → w1.heap.size ≤ j ∧ j < wr.heap.size := owns_block HOWN.out
        have hsl : ∀ v : Value, ∀ tx : List UInt8, SlR w2 encB v tx → (∀ b, v.ownBlock = some b → (Value.slice A3 k c3).ownBlock ≠ some b) → SlR w' encB v tx := fun v tx g1 g2 =>
          RowR.mod (RowR.mod g1 ((Mod.refl no w2).alloc _) (fun _ _ => no_false _)) h2 (fun b hb e => g2 b hb e.symm)
        refine ⟨k + 1, by omega, by go_num, vs ++ [.slice A6 tx.length c6], by rw [hlen1]; simp [HVL.out], ?_, ?_, ((HMM.out.trans hm3).andThen h2 (fun i hi e => by have := hA3 i e.symm; omega))⟩
        · rw [hlen1, htk, docCells_snoc _ _ _ _ (by rw [HVL.out, hkk])]
          exact h1
        · intro j g1 g2
          have hj : j < k ∨ j = k := by rw [hlen1] at g1; omega
          have hsz' : ∀ b, (Value.slice A7 (k + 1) c7).ownBlock = some b → (Value.slice A3 k c3).ownBlock = some b ∨ b = w2.heap.size + 1 := fun b hb => by
            rcases h4 with h4 | h4
            · left; rw [← h4]; exact hb
            · right; rw [h4, hw3] at hb; injection hb with hb; exact hb.symm
          rcases hj with hj | hj
          · have e1 : (vs ++ [Value.slice A6 tx.length c6])[j] = vs[j]'(by rw [HVL.out]; exact hj) := List.getElem_append_left _
            have e2 : (ks.take (k + 1))[j] = (ks.take k)[j]'(by rw [hkk]; exact hj) := by simp
            obtain ⟨q1, q2⟩ := HVS.out j (by rw [hkk]; exact hj) (by rw [HVL.out]; exact hj)
            rw [hkk] at q2
            rw [e1, e2]
            refine ⟨hsl _ _ (RowR.mod q1 HM2.out (fun _ _ => no_false _)) (fun b hb => (q2 b hb).2), fun b hb => ⟨(q2 b hb).1, fun hc => ?_⟩⟩
            rcases hsz' b hc with hc | hc
            · exact (q2 b hb).2 hc
            · have := RowR.lt q1 b hb; omega
          · subst hj
            have e1 : (vs ++ [Value.slice A6 tx.length c6])[j] = .slice A6 tx.length c6 := by
              have : j = vs.length := HVL.out.symm
              simp [this]
            have e2 : (ks.take (j + 1))[j] = key := by simp [HKEY.out]
            rw [e1, e2]
            refine ⟨?_, fun b hb => ?_⟩
            · have : textOf l key = tx := by rw [textOf, HTX.out]
              rw [this]
              exact hsl _ _ (RowR.ofOwns HV2.out) (fun b hb hc => by have := H2B.out b hb; have := hA3 b hc; omega)
            · have hb' := H2B.out b hb
              refine ⟨by omega, fun hc => ?_⟩
              rcases hsz' b hc with hc | hc
              · have := hA3 b hc; omega
              · omega
      case measure => simp [intOf]; omega
    · obtain rfl : k = ks.length := by omega
      rw [List.take_length] at HS
      go_wp2_with fail
      go_ret
      obtain ⟨vs, q1, q2, q3, q4⟩ := HS.out
      exact ⟨_, rfl, vs, q1, owns_base q2 hsz1, fun j h1 h2 => ⟨(q3 j h1 h2).1, fun b hb => ⟨by have := ((q3 j h1 h2).2 b hb).1; omega, ((q3 j h1 h2).2 b hb).2⟩⟩, HM1.out.trans q4⟩
end Go.Proofs.YtbloppbiojopaaaGreatDoor
