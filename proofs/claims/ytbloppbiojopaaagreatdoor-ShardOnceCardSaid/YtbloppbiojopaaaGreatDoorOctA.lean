/- bytes.Clone; package octet: the Reader. -/
import Derived.Test.YtbloppbiojopaaaGreatDoorHeap
import Derived.Test.YtbloppbiojopaaaGreatDoorProg
set_option maxRecDepth 100000
namespace Go.Proofs.YtbloppbiojopaaaGreatDoor
open Go Go.RowKit

theorem elB : ElemOk Tryz.prog 22 5 (.int .u8 0) 1 1 :=
  have ⟨i, hi, h1, h2, h3⟩ := info_parts (P := Tryz.prog) (e := 5) (z := .int .u8 0) (size := 1) (bytes := 1) (by kernel_rfl)
  ⟨Tryz.underlying22, ⟨i, hi, h1, h2, h3⟩, rfl, by decide⟩

theorem encB_one (l : List UInt8) : ∀ u ∈ l.map encB, u.oneCell' = true := by
  intro u hu
  obtain ⟨c, _, rfl⟩ := List.mem_map.1 hu
  rfl

theorem sl_eq_nil : ∀ (w : World) (a : Option Addr) (n c n' c' : Nat), (binOp .eql 22 (.slice a n c) (.slice none n' c')).run Tryz.prog w = .ok (.bool a.isNone) w :=
  fun w a n c n' c' => Lib.run_eql_slice_nil (P := Tryz.prog) w 22 5 a n c n' c' Tryz.underlying22

/-- bytes.Clone: the same bytes in memory of their own; nil of nil. -/
theorem bClone_any (v : Value) (l : List UInt8) (w : World) (h : SlR w encB v l) (hl : l.length ≤ 100000000000) :
    Calls Tryz.prog 26 #[v] w fun e w' => ∃ v', e = .returned v' ∧ w'.ownsRow w.heap.size 5 1 v' l.length (l.map encB) ∧ Mod no w w' ∧ (v' = .slice none 0 0 ↔ v = .slice none 0 0) := by
  have hq := sl_eq_nil
  obtain ⟨A, cap, rfl, hc1, hc2, hc3, hc4⟩ := id h
  cases A with
  | none =>
    obtain ⟨rfl, h0⟩ := hc3 rfl
    obtain rfl : l = [] := by simpa using h0
    clear h hc4 hc3 hc2 hc1 h0 hl
    go_enter Tryz.func26, Tryz.ntmps26
    go_wp2
    go_ret
    exact ⟨_, rfl, World.ownsRow_nil _ _ _ _, Mod.refl _ _, by simp⟩
  | some a =>
    have H := Lib.hid h
    clear h hc4 hc3
    go_enter Tryz.func26, Tryz.ntmps26
    go_wp2_with (at_builtin; refine app_law elB rfl rfl (World.ownsRow_made (base := w.heap.size) w #[] 0 (Nat.le_refl _) (by unfold maxLen; omega) rfl) (RowR.mod H.out (Mod.alloc (Mod.refl no _) _) (fun _ _ f => f)) rfl rfl (by simp) (encB_one l) (by omega) (by unfold maxLen; omega) (by simp) ?_; intro v' w' h1 h2 h3 h4)
    go_ret
    refine ⟨_, rfl, by simpa using h1, ?_, ?_⟩
    · exact ((Mod.refl no w).alloc _).andThen h2 (fun i hi h => by simp [Value.ownBlock] at h; exfalso; omega)
    · refine ⟨fun h => ?_, fun h => by cases h⟩
      have := h3 h
      cases this

/-- A Reader at block r, its bytes in block c: what is left, and whether it has erred. -/
def IsRd (w : World) (r c : Nat) (l : List UInt8) (bad : Bool) : Prop :=
  ∃ v, w.heap[r]? = some (.cells #[v, .bool bad] 221 (0, 0)) ∧ SlR w encB v l ∧ (∀ k, v.ownBlock = some k → k = c) ∧ l.length ≤ 100000000000 ∧ c ≠ r

theorem IsRd.mod {w w' : World} {S : Nat → Prop} {r c : Nat} {l : List UInt8} {bad : Bool} (h : IsRd w r c l bad) (hm : Mod S w w') (h1 : ¬ S r) (h2 : ¬ S c) : IsRd w' r c l bad := by
  obtain ⟨v, g1, g2, g3, g4⟩ := h
  exact ⟨v, hm.heap g1 h1, RowR.mod g2 hm (fun k hk => by rw [g3 k hk]; exact h2), g3, g4⟩


theorem RBad_any (r c : Nat) (v b : Value) (w : World) (hcr : c ≠ r) (h : w.heap[r]? = some (.cells #[v, b] 221 (0, 0))) :
    Calls Tryz.prog 86 #[P0 r] w fun e w' => e = .returned (.tuple #[]) ∧ IsRd w' r c [] true ∧ Mod (only r) w w' := by
  have c0 : w.cell? ⟨r, 0, none⟩ = some v := cell_of_heap h
  have c1 : w.cell? ⟨r, 1, none⟩ = some b := cell_of_heap h
  have f0 : w.frozen? ⟨r, 0, none⟩ = false := free_of_heap h
  have f1 : w.frozen? ⟨r, 1, none⟩ = false := free_of_heap h
  have H := Lib.hid h
  clear h
  go_enter Tryz.func86, Tryz.ntmps86
  go_wp2
  go_end0
  refine ⟨rfl, ⟨.slice none 0 0, ?_, SlR.nil _ _, by simp [Value.ownBlock], by simp, hcr⟩, ((Mod.refl (only r) w).put (only_self r) _).put (only_self r) _⟩
  exact heap_setCell_same (heap_setCell_same H.out _) _


/-- A number off the front of bytes, behind i bytes of it that make u. -/
def numGo : List UInt8 → Nat → Nat → Option (Nat × List UInt8)
  | [], _, _ => none
  | c :: r, i, u =>
    if 9 ≤ i ∨ (0 < i ∧ c = 0) then none
    else if c.toNat < 128 then (if u + c.toNat % 128 * 2 ^ (7 * i) ≤ 4611686018427387904 then some (u + c.toNat % 128 * 2 ^ (7 * i), r) else none)
    else numGo r (i + 1) (u + c.toNat % 128 * 2 ^ (7 * i))

structure RdN where
  n : Nat
  l : List UInt8
  bad : Bool

def rdNum (l : List UInt8) (bad : Bool) : RdN :=
  match numGo l 0 0 with
  | some (n, r) => ⟨n, r, bad⟩
  | none => ⟨0, [], true⟩

theorem rdNum_some {l r : List UInt8} {bad : Bool} {n : Nat} (h : numGo l 0 0 = some (n, r)) : rdNum l bad = ⟨n, r, bad⟩ := by simp [rdNum, h]
theorem rdNum_none {l : List UInt8} {bad : Bool} (h : numGo l 0 0 = none) : rdNum l bad = ⟨0, [], true⟩ := by simp [rdNum, h]

theorem or_num (uu c k : Nat) (hc : c < 256) (hk : k ≤ 8) (hu : uu < 2 ^ (7 * k)) :
    bits .or .u64 (uu : Int) (IntKind.u64.wrap (IntKind.u64.wrap (bits .and .u8 (c : Int) 127) * 2 ^ (7 * k))) = ((uu + c % 128 * 2 ^ (7 * k) : Nat) : Int) := by
  have h1 : bits .and .u8 (c : Int) 127 = ((c % 128 : Nat) : Int) := by
    rw [show (127 : Int) = ((127 : Nat) : Int) from rfl, u8_and_nat c 127 hc (by decide), show (127 : Nat) = 2 ^ 7 - 1 from rfl, Nat.and_two_pow_sub_one_eq_mod]
  have hp : 2 ^ (7 * k) ≤ 2 ^ 56 := Nat.pow_le_pow_right (by decide) (by omega)
  have hm : c % 128 < 128 := Nat.mod_lt _ (by decide)
  rw [h1, IntKind.wrap_u64, IntKind.wrap_u64]
  have e1 : ((c % 128 : Nat) : Int) % 18446744073709551616 = ((c % 128 : Nat) : Int) := by omega
  have hb : c % 128 * 2 ^ (7 * k) < 2 ^ 63 := Nat.lt_of_lt_of_le (Nat.mul_lt_mul_of_pos_right hm (Nat.pow_pos (by decide))) (by omega)
  have e2 : (((c % 128 : Nat) : Int) * 2 ^ (7 * k)) = ((c % 128 * 2 ^ (7 * k) : Nat) : Int) := by simp
  rw [e1, e2]
  have e3 : ((c % 128 * 2 ^ (7 * k) : Nat) : Int) % 18446744073709551616 = ((c % 128 * 2 ^ (7 * k) : Nat) : Int) := by omega
  rw [e3, u64_or_nat _ _ (by omega) (by omega), Nat.or_comm, nat_join (7 * k) _ _ (Nat.mul_mod_left _ _) hu, Nat.add_comm]

theorem wrap64_cast (t : Nat) (h : t ≤ 4611686018427387904) : wrap64 (t : Int) = t := by unfold wrap64; omega

set_option maxHeartbeats 1000000 in
theorem RNum_any (r bc : Nat) (l : List UInt8) (bad : Bool) (w : World) (h : IsRd w r bc l bad) :
    Calls Tryz.prog 85 #[P0 r] w fun e w' => e = .returned (.int .i64 (rdNum l bad).n) ∧ IsRd w' r bc (rdNum l bad).l (rdNum l bad).bad ∧ Mod (only r) w w' := by
  obtain ⟨v, hh, ⟨A, cap, rfl, hc1, hc2, hc3, hc4⟩, hne, hl, hcr⟩ := h
  have c0 : w.cell? ⟨r, 0, none⟩ = some (.slice A l.length cap) := cell_of_heap hh
  have f0 : w.frozen? ⟨r, 0, none⟩ = false := free_of_heap hh
  have H := Lib.hid hh
  have H3 := Lib.hid hc3
  have H4 := Lib.hid hc4
  have HNE := Lib.hid hne
  unfold maxLen at hc2
  clear hh hc3 hc4 hne
  go_enter Tryz.func85, Tryz.ntmps85
  go_wp2
  go_loop [3, 13] (fun u i => ∃ k uu : Nat, k ≤ l.length ∧ u = .int .u64 uu ∧ i = .int .i64 k ∧ k ≤ 9 ∧ uu < 2 ^ (7 * k) ∧ numGo l 0 0 = numGo (l.drop k) k uu) (fun _ i => l.length - (intOf i).toNat)
  case atStart => exact ⟨0, 0, by omega, rfl, rfl, by omega, by decide, rfl⟩
  case round =>
    obtain ⟨k, uu, hk, rfl, rfl, h9, hu, hg⟩ := hrel
    by_cases hlt : k < l.length
    · obtain ⟨b, off, rfl⟩ : ∃ b off, A = some ⟨b, off, none⟩ := by
        cases A with
        | none => have := (H3.out rfl).2; simp at this; subst this; simp at hlt
        | some a => obtain ⟨b, off, sp⟩ := a; obtain rfl : sp = none := (H4.out _ rfl).1; exact ⟨b, off, rfl⟩
      have HB : Hid (b ≠ r) := Lib.hid (by rw [HNE.out b rfl]; exact hcr)
      have HBC : Hid (b = bc) := Lib.hid (HNE.out b rfl)
      have HS : Hid (SlR w encB (.slice (some ⟨b, off, none⟩) l.length cap) l) := Lib.hid ⟨_, cap, rfl, hc1, hc2, H3.out, H4.out⟩
      have hx : w.cell? ⟨b, off + k, none⟩ = some (.int .u8 (l[k].toNat : Int)) := (H4.out _ rfl).2.2 k _ (by simp [hlt])
      have hdr : l.drop k = l[k] :: l.drop (k + 1) := List.drop_eq_getElem_cons hlt
      obtain ⟨x, hxx⟩ : ∃ x, x = l[k] := ⟨_, rfl⟩
      rw [← hxx] at hx hdr
      rw [hdr] at hg
      have HG := Lib.hid hg
      obtain ⟨c, hc⟩ : ∃ c : Nat, c = x.toNat := ⟨_, rfl⟩
      have hc256 : c < 256 := by rw [hc]; exact x.toNat_lt
      have hx0 : x = 0 ↔ c = 0 := by rw [hc]; exact ⟨fun h => by subst h; rfl, fun h => UInt8.toNat_inj.1 (by simpa using h)⟩
      rw [← hc] at hx
      by_cases hbad : 9 ≤ k ∨ (0 < k ∧ c = 0)
      · have H5 : numGo l 0 0 = none := by rw [HG.out]; unfold numGo; rw [if_pos (by rw [hx0]; exact hbad)]
        have H6 := Lib.hid H5
        clear H5 hg hdr hxx hx0 hu HG hc
        by_cases h9' : 9 ≤ k
        · clear hbad
          go_wp2_with (go_at_call 86; refine (RBad_any r bc _ _ w hcr H.out).mono ?_; rintro e w' ⟨rfl, h1, h2⟩)
          go_ret
          rw [rdNum_none H6.out]
          exact ⟨rfl, h1, h2⟩
        · obtain ⟨hk0, hc0⟩ : 0 < k ∧ c = 0 := by omega
          subst hc0
          clear hbad
          go_wp2_with (go_at_call 86; refine (RBad_any r bc _ _ w hcr H.out).mono ?_; rintro e w' ⟨rfl, h1, h2⟩)
          go_ret
          rw [rdNum_none H6.out]
          exact ⟨rfl, h1, h2⟩
      · have hk8 : k ≤ 8 := by omega
        have hor := or_num uu c k hc256 hk8 hu
        obtain ⟨t, ht⟩ : ∃ t, t = uu + c % 128 * 2 ^ (7 * k) := ⟨_, rfl⟩
        rw [← ht] at hor
        have hnz : ¬ 0 < k ∨ (0 < k ∧ ((c : Int) == 0) = false) := by
          rcases Nat.eq_zero_or_pos k with h | h
          · exact .inl (by omega)
          · right; refine ⟨h, ?_⟩; simp; omega
        have hgo : numGo l 0 0 = if c < 128 then (if t ≤ 4611686018427387904 then some (t, l.drop (k + 1)) else none) else numGo (l.drop (k + 1)) (k + 1) t := by
          rw [HG.out]
          conv => lhs; unfold numGo
          rw [if_neg (by rw [hx0]; exact hbad), ← hc, ← ht]
        have HGO := Lib.hid hgo
        have hk9 : decide (9 ≤ (k : Int)) = false := by simp; omega
        have htb : t < 2 ^ (7 * (k + 1)) := by
          have h7 : c % 128 ≤ 127 := by omega
          have h8 : c % 128 * 2 ^ (7 * k) ≤ 127 * 2 ^ (7 * k) := Nat.mul_le_mul_right _ h7
          rw [show 7 * (k + 1) = 7 * k + 7 from by omega, Nat.pow_add]
          omega
        have HTB := Lib.hid htb
        clear hgo hg hdr hxx hx0 hu HG hc ht htb
        by_cases hc128 : c < 128
        · by_cases ht62 : t ≤ 4611686018427387904
          · have H6 : numGo l 0 0 = some (t, l.drop (k + 1)) := by rw [HGO.out, if_pos hc128, if_pos ht62]
            have H7 := Lib.hid H6
            have hw := wrap64_cast t ht62
            clear H6 hbad
            rcases hnz with hnz | ⟨hnz, hnz'⟩
            all_goals
              go_wp2
              all_goals
                go_ret
                rw [rdNum_some H7.out]
                refine ⟨rfl, ⟨_, heap_setCell_same H.out _, ?_, ?_, ?_⟩, (Mod.refl (only r) w).put (only_self r) _⟩
                · first
                    | exact RowR.mod ((SlR.drop HS.out (k + 1) hlt).1 (by assumption)) ((Mod.refl (only r) w).put (only_self r) _) (fun j hj => by simp [Value.ownBlock] at hj; subst hj; exact HB.out)
                    | exact RowR.mod (SlR.drop HS.out (k + 1) hlt).2 ((Mod.refl (only r) w).put (only_self r) _) (fun j hj => by simp [Value.ownBlock] at hj; subst hj; exact HB.out)
                · intro j hj
                  simp [Value.ownBlock] at hj
                  rw [← hj]; exact HBC.out
                · have := List.length_drop (i := k + 1) (l := l)
                  exact ⟨by simp only; omega, hcr⟩
          · have H6 : numGo l 0 0 = none := by rw [HGO.out, if_pos hc128, if_neg ht62]
            have H7 := Lib.hid H6
            have ht62' : 4611686018427387904 < (t : Int) := by omega
            clear H6 hbad
            rcases hnz with hnz | ⟨hnz, hnz'⟩
            all_goals
              go_wp2_with (go_at_call 86; refine (RBad_any r bc _ _ w hcr H.out).mono ?_; rintro e w' ⟨rfl, h1, h2⟩)
              go_ret
              rw [rdNum_none H7.out]
              exact ⟨rfl, h1, h2⟩
        · have H6 : numGo l 0 0 = numGo (l.drop (k + 1)) (k + 1) t := by rw [HGO.out, if_neg hc128]
          have H7 := Lib.hid H6
          clear H6 hbad
          rcases hnz with hnz | ⟨hnz, hnz'⟩
          all_goals
            go_wp2
            go_round
            case rel => exact ⟨_, t, by omega, rfl, by go_num, by omega, HTB.out, H7.out⟩
            case measure => simp [intOf]; omega
    · have H5 : numGo l 0 0 = none := by rw [hg, List.drop_eq_nil_of_le (by omega)]; rfl
      have H6 := Lib.hid H5
      clear H5 hg hu
      go_wp2_with (go_at_call 86; refine (RBad_any r bc _ _ w hcr H.out).mono ?_; rintro e w' ⟨rfl, h1, h2⟩)
      go_ret
      rw [rdNum_none H6.out]
      exact ⟨rfl, h1, h2⟩
end Go.Proofs.YtbloppbiojopaaaGreatDoor
