/- Package octet in plain Lean: what is written is read. -/
import Derived.Test.YtbloppbiojopaaaGreatDoorOctW
namespace Go.Proofs.YtbloppbiojopaaaGreatDoor

theorem numGo_leb : ∀ (d n i u : Nat) (r : List UInt8), n < 128 ^ (d + 1) → i + d ≤ 8 → (0 < i → 0 < n) → u + n * 2 ^ (7 * i) ≤ 4611686018427387904 →
    numGo (leb n ++ r) i u = some (u + n * 2 ^ (7 * i), r)
  | 0, n, i, u, r, hn, hi, hz, hb => by
    have hs : n < 128 := by simpa using hn
    rw [leb_small hs, List.cons_append, List.nil_append]
    unfold numGo
    have h1 : (UInt8.ofNat n).toNat = n := by simp; omega
    have h2 : UInt8.ofNat n = 0 ↔ n = 0 := by
      rw [← UInt8.toNat_inj, h1]; simp
    rw [if_neg (by rw [h2]; omega), h1, if_pos hs, Nat.mod_eq_of_lt hs, if_pos hb]
  | d + 1, n, i, u, r, hn, hi, hz, hb => by
    by_cases hs : n < 128
    · exact numGo_leb 0 n i u r (by simpa using hs) (by omega) hz hb
    · rw [leb_big hs, List.cons_append]
      unfold numGo
      have hm : n % 128 < 128 := Nat.mod_lt _ (by decide)
      have h1 : (UInt8.ofNat (n % 128 + 128)).toNat = n % 128 + 128 := by simp; omega
      have h2 : ¬ UInt8.ofNat (n % 128 + 128) = 0 := by
        rw [← UInt8.toNat_inj, h1]; simp
      rw [if_neg (by rintro (h | ⟨_, h⟩); omega; exact h2 h), h1, if_neg (by omega)]
      have h3 : (n % 128 + 128) % 128 = n % 128 := by omega
      have h4 : u + n % 128 * 2 ^ (7 * i) + n / 128 * 2 ^ (7 * (i + 1)) = u + n * 2 ^ (7 * i) := by
        have e1 : 2 ^ (7 * (i + 1)) = 128 * 2 ^ (7 * i) := by rw [show 7 * (i + 1) = 7 + 7 * i from by omega, Nat.pow_add]
        have e2 : n / 128 * (128 * 2 ^ (7 * i)) = n / 128 * 128 * 2 ^ (7 * i) := by rw [Nat.mul_assoc]
        rw [e1, e2, Nat.add_assoc, ← Nat.add_mul]
        congr 2
        omega
      rw [h3, numGo_leb d (n / 128) (i + 1) _ r (by rw [Nat.pow_succ] at hn; omega) (by omega) (by omega) (by rw [h4]; exact hb), h4]

/-- A number as written is read. -/
theorem rdNum_enc (n : Nat) (hn : n ≤ 4611686018427387904) (r : List UInt8) (bad : Bool) : rdNum (numEnc n ++ r) bad = ⟨n, r, bad⟩ := by
  apply rdNum_some
  have hc : clampN n = n := by unfold clampN; omega
  unfold numEnc
  rw [hc, numGo_leb 8 n 0 0 r (Nat.lt_of_le_of_lt hn (by decide)) (by omega) (by omega) (by simpa using hn)]
  simp

/-- A row as written is read. -/
theorem rdBytes_enc (p r : List UInt8) (hp : p.length ≤ 4611686018427387904) (bad : Bool) : rdBytes (numEnc p.length ++ p ++ r) bad = ⟨p, r, bad⟩ := by
  unfold rdBytes
  rw [List.append_assoc, rdNum_enc _ hp]
  simp

end Go.Proofs.YtbloppbiojopaaaGreatDoor
