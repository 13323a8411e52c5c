/- Package octet in plain Lean: numbers as bytes. -/
namespace Go.Proofs.YtbloppbiojopaaaGreatDoor

/-- A number in groups of seven bits, the lowest first. -/
def leb (u : Nat) : List UInt8 := if h : u < 128 then [UInt8.ofNat u] else UInt8.ofNat (u % 128 + 128) :: leb (u / 128)
termination_by u
decreasing_by omega

theorem leb_small {u : Nat} (h : u < 128) : leb u = [UInt8.ofNat u] := by unfold leb; rw [dif_pos h]
theorem leb_big {u : Nat} (h : ¬ u < 128) : leb u = UInt8.ofNat (u % 128 + 128) :: leb (u / 128) := by
  conv => lhs; unfold leb
  rw [dif_neg h]

/-- What is written of a number: nothing below nought, nothing beyond 2^62. -/
def clampN (n : Int) : Nat := (max 0 (min n 4611686018427387904)).toNat
def numEnc (n : Int) : List UInt8 := leb (clampN n)
def numsEnc (l : List Int) : List UInt8 := l.flatMap numEnc

theorem leb_len (d : Nat) : ∀ u, u < 128 ^ (d + 1) → (leb u).length ≤ d + 1 := by
  induction d with
  | zero => intro u h; rw [leb_small (by simpa using h)]; simp
  | succ d ih =>
    intro u h
    by_cases hs : u < 128
    · rw [leb_small hs]; simp
    · rw [leb_big hs]
      have := ih (u / 128) (by rw [Nat.pow_succ] at h; omega)
      simp; omega

theorem clampN_le (n : Int) : clampN n ≤ 4611686018427387904 := by unfold clampN; omega
theorem numEnc_len (n : Int) : (numEnc n).length ≤ 9 := leb_len 8 _ (Nat.lt_of_le_of_lt (clampN_le n) (by decide))
theorem numsEnc_len (l : List Int) : (numsEnc l).length ≤ 9 * l.length := by
  unfold numsEnc
  induction l with
  | nil => simp
  | cons a l ih => simp only [List.flatMap_cons, List.length_append, List.length_cons]; have := numEnc_len a; omega
end Go.Proofs.YtbloppbiojopaaaGreatDoor
