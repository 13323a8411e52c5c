/- bytes.Equal; package op: Decode. -/
import Derived.Test.YtbloppbiojopaaaGreatDoorOpE
import Derived.Laws.IdiomStrings
set_option maxRecDepth 100000
namespace Go.Proofs.YtbloppbiojopaaaGreatDoor
open Go Go.RowKit

/-- 'string(b)'. -/
theorem bs_conv (w : World) (v : Value) (l : List UInt8) (h : SlR w encB v l) : (convert 22 9 v).run Tryz.prog w = .ok (.string ⟨l.toArray⟩) w := by
  obtain ⟨A, cap, rfl, h1, h2, h3, h4⟩ := h
  cases A with
  | none =>
    have hl : l = [] := by simpa using (h3 rfl).2
    subst hl
    simp only [List.length_nil]
    rw [run_convert_bytes_string w 22 9 5 none 0 cap Tryz.underlying22 Tryz.underlying5 Tryz.underlying9]
    rfl
  | some a =>
    obtain ⟨b, off, sp⟩ := a
    obtain ⟨e1, -, e2⟩ := h4 _ rfl
    obtain rfl : sp = none := e1
    refine run_convert_bytes_back w 22 9 5 ⟨b, off, none⟩ cap l Tryz.underlying22 Tryz.underlying5 Tryz.underlying9 fun j hj => ?_
    rw [Addr.add_lit]
    exact e2 j _ (by simp [hj])

theorem bEqual_any (va vb : Value) (la lb : List UInt8) (w : World) (ha : SlR w encB va la) (hb : SlR w encB vb lb) :
    Calls Tryz.prog 69 #[va, vb] w fun e w' => e = .returned (.bool (decide (la = lb))) ∧ w' = w := by
  have h1 := bs_conv w va la ha
  have h2 := bs_conv w vb lb hb
  clear ha hb
  go_enter Tryz.func69, Tryz.ntmps69
  go_wp2
  go_ret
  refine ⟨?_, rfl⟩
  have : (la == lb) = decide (la = lb) := by rw [Bool.eq_iff_iff]; simp
  simp [this]
end Go.Proofs.YtbloppbiojopaaaGreatDoor
