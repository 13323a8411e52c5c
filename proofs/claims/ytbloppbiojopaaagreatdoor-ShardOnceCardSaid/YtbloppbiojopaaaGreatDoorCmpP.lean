/- The order of bytes, and of places. -/
import Derived.Test.YtbloppbiojopaaaGreatDoorShF
set_option maxRecDepth 100000
namespace Go.Proofs.YtbloppbiojopaaaGreatDoor
open Go Go.RowKit Go.Shelf Go.Lib Go.Sort

theorem cb_all : ∀ a b : List UInt8, (Lib.compareBytes a b < 0 ↔ a < b) ∧ (Lib.compareBytes a b = 0 ↔ a = b)
  | [], [] => by simp [Lib.compareBytes]
  | [], _ :: _ => by simp [Lib.compareBytes]
  | _ :: _, [] => by simp [Lib.compareBytes]
  | a :: la, b :: lb => by
    have ih := cb_all la lb
    unfold Lib.compareBytes
    rw [List.cons_lt_cons_iff]
    by_cases h1 : a < b
    · have h2 : a ≠ b := fun e => by subst e; exact absurd h1 (UInt8.lt_irrefl a)
      simp [h1, h2]
    · by_cases h2 : b < a
      · have h3 : a ≠ b := fun e => by subst e; exact absurd h2 (UInt8.lt_irrefl a)
        simp [h1, h2, h3]
      · have h3 : a = b := by
          apply UInt8.le_antisymm
          · exact UInt8.not_lt.1 h2
          · exact UInt8.not_lt.1 h1
        subst h3
        simp [h1, ih]

theorem mat_lt (x y : List UInt8 × Nat) : ltOf matCmp x y = decide (x.1 < y.1 ∨ (x.1 = y.1 ∧ x.2 < y.2)) := by
  obtain ⟨h1, h2⟩ := cb_all x.1 y.1
  unfold ltOf matCmp
  by_cases h : Lib.compareBytes x.1 y.1 = 0
  · have e := h2.1 h
    have hn : ¬ x.1 < y.1 := fun hl => by have := h1.2 hl; omega
    rw [if_pos h, decide_eq_decide]
    constructor
    · intro hh
      right
      refine ⟨e, ?_⟩
      by_cases h3 : (x.2 : Int) < y.2
      · omega
      · rw [if_neg h3] at hh; split at hh <;> omega
    · rintro (hh | ⟨-, hh⟩)
      · exact absurd hh hn
      · rw [if_pos (by omega)]; decide
  · rw [if_neg h, decide_eq_decide, h1]
    constructor
    · exact .inl
    · rintro (hh | ⟨hh, -⟩)
      · exact hh
      · exact absurd (h2.2 hh) h

theorem bytes_tri (a b : List UInt8) : a < b ∨ a = b ∨ b < a := by
  by_cases h1 : a < b
  · exact .inl h1
  · by_cases h2 : b < a
    · exact .inr (.inr h2)
    · exact .inr (.inl (List.le_antisymm (List.not_lt.1 h2) (List.not_lt.1 h1)))

theorem mat_swo : SWO (ltOf matCmp) where
  irrefl x := by rw [mat_lt]; simp [List.lt_irrefl]
  trans x y z h1 h2 := by
    rw [mat_lt, decide_eq_true_eq] at *
    rcases h1 with h1 | ⟨h1, h1'⟩ <;> rcases h2 with h2 | ⟨h2, h2'⟩
    · exact .inl (List.lt_trans h1 h2)
    · exact .inl (h2 ▸ h1)
    · exact .inl (h1 ▸ h2)
    · exact .inr ⟨h1.trans h2, by omega⟩
  ntrans x y z h1 h2 := by
    rw [mat_lt, decide_eq_false_iff_not] at *
    rintro (h | ⟨h, h'⟩)
    · rcases bytes_tri x.1 y.1 with q | q | q
      · exact h1 (.inl q)
      · rcases bytes_tri y.1 z.1 with r | r | r
        · exact h2 (.inl r)
        · rw [q, r] at h; exact List.lt_irrefl _ h
        · rw [q] at h; exact List.lt_irrefl _ (List.lt_trans h r)
      · exact h2 (.inl (List.lt_trans q h))
    · rcases bytes_tri x.1 y.1 with q | q | q
      · exact h1 (.inl q)
      · by_cases hq : x.2 < y.2
        · exact h1 (.inr ⟨q, hq⟩)
        · exact h2 (.inr ⟨q ▸ h, by omega⟩)
      · exact h2 (.inl (h ▸ q))
end Go.Proofs.YtbloppbiojopaaaGreatDoor
