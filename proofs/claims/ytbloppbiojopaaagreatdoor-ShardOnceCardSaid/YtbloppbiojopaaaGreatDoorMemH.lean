/- Package mem: Find. -/
import Derived.Test.YtbloppbiojopaaaGreatDoorMemG
set_option maxRecDepth 100000
namespace Go.Proofs.YtbloppbiojopaaaGreatDoor
open Go Go.RowKit

theorem pairs_at {α β : Type} (f g : α → β) : ∀ (l : List α) (k : Nat), (l.flatMap fun p => [f p, g p])[2 * k]? = l[k]?.map f ∧ (l.flatMap fun p => [f p, g p])[2 * k + 1]? = l[k]?.map g
  | [], k => by simp
  | a :: l, 0 => by simp
  | a :: l, k + 1 => by
    have h := pairs_at f g l k
    rw [show 2 * (k + 1) = 2 * k + 2 by omega]
    simp only [List.flatMap_cons, List.cons_append, List.nil_append, List.getElem?_cons_succ]
    exact h

theorem docCells_at (ks : List (List UInt8)) (vs : List Value) (k : Nat) (h1 : k < ks.length) (h2 : k < vs.length) : (docCells ks vs)[2 * k]? = some (encStr ks[k]) ∧ (docCells ks vs)[2 * k + 1]? = some vs[k] := by
  have h := pairs_at (fun p : List UInt8 × Value => encStr p.1) (fun p => p.2) (ks.zip vs) k
  have hz : (ks.zip vs)[k]? = some (ks[k], vs[k]) := by rw [List.getElem?_eq_some_iff]; exact ⟨by simp; omega, by simp⟩
  rw [hz] at h
  exact h

theorem flat_len {α β : Type} (f : α → List β) (c : Nat) (hf : ∀ x, (f x).length ≤ c) : ∀ l : List α, (l.flatMap f).length ≤ c * l.length
  | [] => by simp
  | a :: l => by
    have := flat_len f c hf l
    have := hf a
    simp only [List.flatMap_cons, List.length_append, List.length_cons, Nat.mul_add]
    omega

theorem text_len {w : World} {F : Nat → Prop} {t mb : Nat} {l : Tab} (h : TabR w F t mb l) (k : List UInt8) : (textOf l k).length ≤ 4096 := by
  obtain ⟨-, -, -, -, raw, -, hents⟩ := h
  obtain ⟨-, -, -, -, h4⟩ := raw_known hents ⟨k.toArray⟩
  exact h4

theorem hits_len {w : World} {F : Nat → Prop} {t mb : Nat} {l : Tab} (h : TabR w F t mb l) (p k : List UInt8) : (keyHits l p k).length ≤ 4097 := by
  have h1 := text_len h k
  have h2 := hitsTo_len p (textOf l k) ((textOf l k).length + 1 - p.length)
  simp only [keyHits, List.length_map]
  omega

set_option maxHeartbeats 1000000 in
theorem memFind_any (F : Nat → Prop) (t mb : Nat) (l : Tab) (vp : Value) (p : List UInt8) (w : World) (h : TabR w F t mb l) (hn : (l.map (·.1)).Nodup) (hs : l.length ≤ 1000000) (hb : ∀ p ∈ l, p.1.size ≤ 1000000) (hp : SlR w encB vp p) (hp1 : 1 ≤ p.length) (hp2 : p.length ≤ 64) :
    Calls Tryz.prog 32 #[P0 t, vp] w fun e w' => ∃ v, e = .returned v ∧ MatN w w' v (tabFind l p) := by
  obtain ⟨Ap, cp, rfl, -⟩ := id hp
  have H := Lib.hid h
  have HN := Lib.hid hn
  have HB := Lib.hid hb
  have HP := Lib.hid hp
  obtain ⟨ks, hks⟩ : ∃ ks, ks = tabKeys l true := ⟨_, rfl⟩
  have hkl : ks.length ≤ l.length := by
    rw [hks, tabKeys]
    refine Nat.le_trans (List.length_filter_le _ _) ?_
    rw [List.length_mergeSort]; simp [keyBytes]
  have hg : ((p.length : Int) == 0) = false := beq_false_of_ne (by omega)
  have HKS := Lib.hid hks
  clear h hn hb hp hks
  go_enter Tryz.func32, Tryz.ntmps32
  go_wp2_with fail
  refine (memDocs_any F t mb l w H.out HN.out hs HB.out).mono ?_
  rintro e w1 ⟨v, rfl, vs, hvl, hown, hvs, hm1⟩
  rw [← HKS.out] at hvl hown hvs
  obtain ⟨A, cap, rfl⟩ := owns_slice hown
  have HOWN := Lib.hid hown
  have HVS := Lib.hid hvs
  have HVL := Lib.hid hvl
  have HM1 := Lib.hid hm1
  have hsz1 := hm1.size
  have HP1 : Hid (SlR w1 encB (.slice Ap p.length cp) p) := Lib.hid (RowR.mod HP.out hm1 (fun _ _ => no_false _))
  clear hown hvs hvl hm1 hg
  go_wp2_with fail
  go_loopw [5, 15] (fun v i wr => ∃ k : Nat, k ≤ ks.length ∧ i = .int .i64 k ∧ MatN w1 wr v ((ks.take k).flatMap (keyHits l p))) (fun _ i _ => ks.length - (intOf i).toNat)
  case atStart => exact ⟨0, by omega, rfl, World.ownsRow_nil _ _ _ _, Mod.refl _ _⟩
  case round =>
    obtain ⟨k, hk, rfl, hst⟩ := hrel
    obtain ⟨M, hM⟩ : ∃ M, M = (ks.take k).flatMap (keyHits l p) := ⟨_, rfl⟩
    rw [← hM] at hst
    have HS := Lib.hid hst
    have HMM := Lib.hid hM
    have hMl : M.length ≤ 4097000000 := by
      rw [hM]
      have := flat_len (keyHits l p) 4097 (fun x => hits_len H.out p x) (ks.take k)
      have h2 : (ks.take k).length ≤ 1000000 := by simp; omega
      omega
    obtain ⟨A3, c3, rfl⟩ := owns_slice hst.1
    clear hst hM
    by_cases hlt : k < ks.length
    · have hlv : k < vs.length := by rw [HVL.out]; exact hlt
      obtain ⟨key, hkey⟩ : ∃ key, key = ks[k] := ⟨_, rfl⟩
      obtain ⟨vt, hvt⟩ : ∃ vt, vt = vs[k] := ⟨_, rfl⟩
      have htx := (HVS.out k hlt hlv).1
      rw [← hkey, ← hvt] at htx
      obtain ⟨tx, htxe⟩ : ∃ tx, tx = textOf l key := ⟨_, rfl⟩
      rw [← htxe] at htx
      have htl : tx.length ≤ 4096 := by
        rw [htxe]
        obtain ⟨-, -, -, -, raw, -, hents⟩ := H.out
        obtain ⟨-, -, -, -, h4⟩ := raw_known hents ⟨key.toArray⟩
        exact h4
      obtain ⟨At, ct, rfl, -⟩ := id htx
      obtain ⟨d1, d2⟩ := docCells_at ks vs k hlt hlv
      rw [← hkey] at d1
      rw [← hvt] at d2
      have hA : ∃ g, A = some ⟨g, 0, none⟩ := by
        rcases HOWN.out.2 with ⟨e1, e2⟩ | ⟨g, cap', cur, e1, -⟩
        · omega
        · injection e1 with e1; exact ⟨g, e1⟩
      obtain ⟨g, rfl⟩ := hA
      have x1 := HS.out.2.cell (HOWN.out.cells (g := g) rfl _ _ d1) (no_false _)
      have x2 := HS.out.2.cell (HOWN.out.cells (g := g) rfl _ _ d2) (no_false _)
      rw [Addr.add_lit, Nat.zero_add, Nat.mul_comm 2 k] at x1 x2
      have HTX : Hid (SlR w1 encB (.slice At tx.length ct) tx) := Lib.hid htx
      have HTE := Lib.hid htxe
      have HKEY := Lib.hid hkey
      have hks2 : ks.length ≤ 1000000 := by omega
      clear htx htxe hkey hvt d1 d2
      go_wp2_with fail
      obtain ⟨w4, hw4⟩ : ∃ w4, w4 = wr.alloc (.cells #[encStr key, .slice At tx.length ct] 115) := ⟨_, rfl⟩
      have hbox : w4.heap[wr.heap.size]? = some (.cells #[encStr key, .slice At tx.length ct] 115 (0, 0)) := by rw [hw4]; exact heap_alloc_new wr _
      have hm4 : Mod no wr w4 := by rw [hw4]; exact (Mod.refl no wr).alloc _
      rw [← hw4]
      have HBOX := Lib.hid hbox
      have HM4 := Lib.hid hm4
      have hw1r := HS.out.2.size
      have hr4 := hm4.size
      have hbl := (Array.getElem?_eq_some_iff.1 hbox).1
      clear hw4 hbox hm4 x1 x2
      go_loopw [5, 8] (fun v i wq => ∃ n : Nat, n ≤ tx.length + 1 - p.length ∧ i = .int .i64 n ∧ wq.heap[wr.heap.size]? = some (.cells #[encStr key, .slice At tx.length ct] 115 (0, 0)) ∧ wq.ownsRow w1.heap.size 61 2 v (M.length + (hitsTo p tx n).length) (M.flatMap encM ++ ((hitsTo p tx n).map fun m => (key, m)).flatMap encM) ∧ Mod no w1 wq ∧ v.ownBlock ≠ some wr.heap.size) (fun _ i _ => tx.length + 1 - (intOf i).toNat)
      case atStart =>
        refine ⟨0, by omega, rfl, HBOX.out, ?_, HS.out.2.trans HM4.out, ?_⟩
        · have := owns_mod HS.out.1 HM4.out (fun _ _ => no_false _)
          simpa [hitsTo] using this
        · intro e; have := (owns_block HS.out.1 _ e).2; omega
      case round =>
        obtain ⟨n, hnn, rfl, hbx, hown, hmod, hne⟩ := hrel
        obtain ⟨A8, c8, rfl⟩ := owns_slice hown
        have hml : (hitsTo p tx n).length ≤ 4097 := by have := hitsTo_len p tx n; omega
        have y1 := cell_of_heap (i := 1) hbx
        have y0 := cell_of_heap (i := 0) hbx
        simp only [List.getElem?_toArray, List.getElem?_cons_zero, List.getElem?_cons_succ] at y0 y1
        have hq1 := hmod.size
        have HBX := Lib.hid hbx
        have HO := Lib.hid hown
        have HMO := Lib.hid hmod
        have HNE := Lib.hid hne
        clear hbx hown hmod hne
        by_cases hl2 : n + p.length ≤ tx.length
        · obtain ⟨tb, toff, rfl, -⟩ := RowR.pos HTX.out (k := n) (by omega)
          obtain ⟨-, hdrop⟩ := SlR.drop HTX.out n (by omega)
          have hct : tx.length ≤ ct := by obtain ⟨_, _, e, h1, _⟩ := HTX.out; injection e with _ _ e; omega
          have hcn : ¬ ct = n := by omega
          have hdr := RowR.mod hdrop HMO.out (fun _ _ => no_false _)
          have HDR := Lib.hid hdr
          have HPQ := Lib.hid (RowR.mod HP1.out HMO.out (fun _ _ => no_false _))
          clear hdrop hdr
          go_wp2_with fail
          refine (bHasPre_any _ _ (tx.drop n) p _ HDR.out HPQ.out).mono ?_
          rintro e W ⟨rfl, hW⟩
          rw [hW]
          clear hW W
          obtain ⟨q, hq⟩ : ∃ q, q = decide ((tx.drop n).take p.length = p) := ⟨_, rfl⟩
          rw [← hq]
          have hsucc := hitsTo_succ p tx n
          rw [← hq] at hsucc
          have HSU := Lib.hid hsucc
          clear hq hsucc
          cases q
          · go_wp2_with fail
            go_roundw
            case rel =>
              have e1 : hitsTo p tx (n + 1) = hitsTo p tx n := by rw [HSU.out]; simp
              refine ⟨n + 1, by omega, by go_num, HBX.out, ?_, HMO.out, HNE.out⟩
              rw [e1]; exact HO.out
            case measure => simp [intOf]; omega
          · have hrow := RowR.madeAt wr [encStr key, .int .i64 n] 61 1 wr.heap.size rfl (by omega)
            have hm5 : Mod no wr (wr.alloc (.cells #[encStr key, .int .i64 n] 61)) := (Mod.refl no wr).alloc _
            have hown5 := owns_mod HO.out hm5 (fun j _ => no_false j)
            have HROW := Lib.hid hrow
            have HOWN5 := Lib.hid hown5
            have HM5 := Lib.hid hm5
            clear hrow hm5 hown5
            go_wp2_with (at_builtin; refine app_law elMatch rfl rfl HOWN5.out HROW.out rfl rfl (by simp) (by intro u hu; simp at hu; rcases hu with rfl | rfl <;> rfl) (by omega) (by unfold maxLen; omega) (by simp; omega) ?_; intro v' w' h1 h2 h3 h4; obtain ⟨A7, c7, rfl⟩ := owns_slice h1)
            go_roundw
            case rel =>
              have e1 : hitsTo p tx (n + 1) = hitsTo p tx n ++ [n] := by rw [HSU.out]; simp
              have hA8 := owns_block HO.out
              have hl' := (Array.getElem?_eq_some_iff.1 HBX.out).1
              refine ⟨n + 1, by omega, by go_num, h2.heap (HM5.out.heap HBX.out (no_false _)) (fun e => HNE.out e.symm), ?_, (HMO.out.trans HM5.out).andThen h2 (fun i hi e => by have := hA8 i e.symm; omega), fun e => ?_⟩
              · rw [e1]
                simp only [List.length_append, List.length_cons, List.length_nil, List.map_append, List.map_cons, List.map_nil, List.flatMap_append, List.flatMap_cons, List.flatMap_nil, List.append_nil]
                rw [← Nat.add_assoc, ← List.append_assoc]
                exact h1
              · rcases h4 with h4 | h4
                · exact HNE.out (h4 ▸ e)
                · rw [h4] at e; simp at e; omega
            case measure => simp [intOf]; omega
        · have hn2 : n = tx.length + 1 - p.length := by omega
          go_wp2_with fail
          go_roundw
          case rel =>
            have htk : ks.take (k + 1) = ks.take k ++ [key] := by rw [List.take_succ_eq_append_getElem hlt, HKEY.out]
            have hx : (ks.take (k + 1)).flatMap (keyHits l p) = M ++ (hitsTo p tx n).map fun m => (key, m) := by
              rw [htk, List.flatMap_append, ← HMM.out]
              simp only [List.flatMap_cons, List.flatMap_nil, List.append_nil, keyHits]
              rw [← HTE.out, hn2]
            refine ⟨k + 1, by omega, by go_num, ?_, HMO.out⟩
            rw [hx]
            simpa using HO.out
          case measure => simp [intOf]; omega
    · obtain rfl : k = ks.length := by omega
      have hfin : M = tabFind l p := by rw [HMM.out, List.take_length, HKS.out]; rfl
      have HF := Lib.hid hfin
      clear hfin
      go_wp2_with fail
      go_ret
      rw [← HF.out]
      exact ⟨_, rfl, owns_base HS.out.1 hsz1, HM1.out.trans HS.out.2⟩
end Go.Proofs.YtbloppbiojopaaaGreatDoor
