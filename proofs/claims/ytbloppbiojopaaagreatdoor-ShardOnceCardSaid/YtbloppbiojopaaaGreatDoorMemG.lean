/- bytes.HasPrefix; package mem: Find. -/
import Derived.Test.YtbloppbiojopaaaGreatDoorMemF
import Derived.Test.YtbloppbiojopaaaGreatDoorOpG
set_option maxRecDepth 100000
namespace Go.Proofs.YtbloppbiojopaaaGreatDoor
open Go Go.RowKit

theorem bHasPre_any (va vb : Value) (la lb : List UInt8) (w : World) (ha : SlR w encB va la) (hb : SlR w encB vb lb) :
    Calls Tryz.prog 76 #[va, vb] w fun e w' => e = .returned (.bool (decide (la.take lb.length = lb))) ∧ w' = w := by
  obtain ⟨A, ca, rfl, ha1, ha2, ha3, ha4⟩ := id ha
  obtain ⟨B, cb, rfl, hb1, hb2, -⟩ := id hb
  have HA := Lib.hid ha
  have HB := Lib.hid hb
  unfold maxLen at ha2 hb2
  by_cases hl : lb.length ≤ la.length
  · have h1 : ((la.length : Int) ≥ lb.length) := by omega
    have h2 : decide ((la.length : Int) ≥ lb.length) = true := by simpa using hl
    have hsl : SlR w encB (.slice A lb.length ca) (la.take lb.length) := by
      cases A with
      | none =>
        have h0 := ha3 rfl
        have e1 : la = [] := by simpa using h0.2
        subst e1
        have e2 : lb.length = 0 := by simpa using hl
        rw [e2, h0.1]
        exact SlR.nil _ _
      | some a =>
        obtain ⟨b, off, sp⟩ := a
        obtain rfl : sp = none := (ha4 _ rfl).1
        exact HA.out.take lb.length hl
    have HS := Lib.hid hsl
    clear ha hb ha3 ha4 hsl
    go_enter Tryz.func76, Tryz.ntmps76
    go_wp2_with fail
    refine (bEqual_any _ _ _ lb w HS.out HB.out).mono ?_
    rintro e W ⟨rfl, hW⟩
    rw [hW]
    clear hW W
    obtain ⟨q, hq⟩ : ∃ q, q = decide (la.take lb.length = lb) := ⟨_, rfl⟩
    rw [← hq]
    have HQ := Lib.hid hq
    clear hq
    go_wp2_with fail
    go_ret
    exact ⟨by rw [← HQ.out]; rfl, rfl⟩
  · have h2 : ¬ ((lb.length : Int) ≤ la.length) := by omega
    have hne : decide (la.take lb.length = lb) = false := by
      simp only [decide_eq_false_iff_not]
      intro e
      have := congrArg List.length e
      simp at this; omega
    have HNE := Lib.hid hne
    clear ha hb ha3 ha4 hne
    go_enter Tryz.func76, Tryz.ntmps76
    go_wp2_with fail
    go_ret
    exact ⟨by rw [HNE.out]; rfl, rfl⟩

theorem elMatch : ElemOk Tryz.prog 41 61 (.agg #[.string ⟨#[]⟩, .int .i64 0]) 2 24 :=
  have ⟨i, hi, h1, h2, h3⟩ := info_parts (P := Tryz.prog) (e := 61) (z := .agg #[.string ⟨#[]⟩, .int .i64 0]) (size := 2) (bytes := 24) (by kernel_rfl)
  ⟨Tryz.underlying41, ⟨i, hi, h1, h2, h3⟩, rfl, by decide⟩

abbrev encM : List UInt8 × Nat → List Value := fun m => [encStr m.1, .int .i64 m.2]

/-- Where p stands in a text, below n. -/
def hitsTo (p tx : List UInt8) (n : Nat) : List Nat := (List.range n).filter fun at_ => decide ((tx.drop at_).take p.length = p)

/-- Where p stands in a key's text. -/
def keyHits (l : Tab) (p k : List UInt8) : List (List UInt8 × Nat) := (hitsTo p (textOf l k) ((textOf l k).length + 1 - p.length)).map fun n => (k, n)

def tabFind (l : Tab) (p : List UInt8) : List (List UInt8 × Nat) := (tabKeys l true).flatMap (keyHits l p)

/-- Places, in a row of the call's own. -/
def MatN (w W : World) (v : Value) (ms : List (List UInt8 × Nat)) : Prop := W.ownsRow w.heap.size 61 2 v ms.length (ms.flatMap encM) ∧ Mod no w W

theorem hitsTo_succ (p tx : List UInt8) (n : Nat) : hitsTo p tx (n + 1) = hitsTo p tx n ++ (if decide ((tx.drop n).take p.length = p) then [n] else []) := by
  unfold hitsTo
  rw [List.range_succ, List.filter_append]
  congr 1
  simp [List.filter]
  split <;> rename_i h <;> simp_all

theorem hitsTo_len (p tx : List UInt8) (n : Nat) : (hitsTo p tx n).length ≤ n := by
  unfold hitsTo
  exact Nat.le_trans (List.length_filter_le _ _) (by simp)
end Go.Proofs.YtbloppbiojopaaaGreatDoor
