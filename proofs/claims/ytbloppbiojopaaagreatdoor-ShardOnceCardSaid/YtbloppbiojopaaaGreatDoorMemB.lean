/- Package mem: the table's Get, Put, Delete. -/
import Derived.Test.YtbloppbiojopaaaGreatDoorMemA
import Derived.Deep.RegionHeld3
import Derived.StillTailTactics
import Derived.OwnWalk
set_option maxRecDepth 100000
namespace Go.Proofs.YtbloppbiojopaaaGreatDoor
open Go Go.RowKit

/-- What is told of a key. -/
def tabGet (k : ByteArray) (l : Tab) : List UInt8 × Bool × Bool := match mget k l with | none => ([], false, false) | some (t, h) => (t, h, true)

theorem memGet_any (F : Nat → Prop) (t mb : Nat) (l : Tab) (k : ByteArray) (w : World) (h : TabR w F t mb l) :
    Calls Tryz.prog 30 #[P0 t, .string k] w fun e w' => ∃ s, e = .returned (.tuple #[s, .bool (tabGet k l).2.1, .bool (tabGet k l).2.2]) ∧ SlR w' encB s (tabGet k l).1 ∧ (∀ b, s.ownBlock = some b → w.heap.size ≤ b) ∧ Mod no w w' := by
  obtain ⟨g1, g2, g3, g4, raw, g5, g6⟩ := h
  have c0 : w.cell? ⟨t, 0, none⟩ = some (.map (some mb)) := cell_of_heap g1
  have G5 := Lib.hid g5
  obtain ⟨q, z, hz, hq1, hq2⟩ : ∃ (q : List UInt8 × Bool × Bool) (s : Value), ((mget k raw).map (fun v => v)).getD (.agg #[.slice none 0 0, .bool false]) = .agg #[s, .bool q.2.1] ∧ (SlR w encB s q.1 ∧ q.1.length ≤ 4096) ∧ (tabGet k l = q ∧ (mget k raw).isSome = q.2.2) := by
    rcases g6.get k with ⟨e1, e2⟩ | ⟨p, v, e1, e2, s, rfl, e3, e4, -⟩
    · exact ⟨([], false, false), .slice none 0 0, by rw [e2]; rfl, ⟨SlR.nil _ _, by simp⟩, by simp [tabGet, e1], by rw [e2]; rfl⟩
    · exact ⟨(p.1, p.2, true), s, by rw [e2]; rfl, ⟨e3, e4⟩, by simp [tabGet, e1], by rw [e2]; rfl⟩
  obtain ⟨hq2, hq3⟩ := hq2
  rw [hq2]
  obtain ⟨q1, q2, q3⟩ := q
  simp only at hz hq1 hq2 hq3 ⊢
  obtain ⟨A, cap, rfl, -⟩ := id hq1.1
  have HQ := Lib.hid hq1
  have HZ := Lib.hid hz
  have HQ3 := Lib.hid hq3
  clear g1 g2 g3 g4 g5 g6 hz hq1 hq2 hq3
  go_enter Tryz.func30, Tryz.ntmps30
  go_wp2_with (at_lookup; refine wp_lookup keyS Tryz.underlying143 zeroKnown G5.out k rfl rfl rfl rfl ?_; rw [HZ.out, HQ3.out])
  go_wp2_with fail
  obtain ⟨W, hW⟩ : ∃ W, W = w.alloc (.cells #[.slice A q1.length cap, .bool q2] 147) := ⟨_, rfl⟩
  have hm0 : Mod no w W := by rw [hW]; exact (Mod.refl no w).alloc _
  have d0 : W.cell? ⟨w.heap.size, 0, none⟩ = some (.slice A q1.length cap) := by rw [hW]; exact cell_of_heap (heap_alloc_new w _)
  have d1 : W.cell? ⟨w.heap.size, 1, none⟩ = some (.bool q2) := by rw [hW]; exact cell_of_heap (heap_alloc_new w _)
  rw [← hW]
  have HM := Lib.hid hm0
  clear hW hm0
  go_region_held3 (fun W' => W'.cell? ⟨w.heap.size, 0, none⟩ = some (.slice A q1.length cap) ∧ W'.cell? ⟨w.heap.size, 1, none⟩ = some (.bool q2)) (first | exact ⟨d0, d1⟩ | exact ⟨e0, e1⟩) (first | (go_at_call 26; refine (bClone_any _ q1 _ (RowR.mod HQ.out.1 HM.out.drew (fun _ _ f => f)) (by have := HQ.out.2; omega)).mono ?_; rintro e w' ⟨s, rfl, h1, h2, -⟩; have e0 := h2.cell (p := ⟨w.heap.size, 0, none⟩) d0 (no_false _); have e1 := h2.cell (p := ⟨w.heap.size, 1, none⟩) d1 (no_false _); have H1 := Lib.hid h1; have H2 := Lib.hid h2; clear h1 h2))
  go_wp2_with fail
  go_ret3
  refine ⟨s, rfl, RowR.ofOwns H1.out, fun b hb => ?_, HM.out.drew.trans H2.out⟩
  rcases H1.out.2 with ⟨hs, -⟩ | ⟨g, cap, cur, rfl, hb2, -⟩
  · rw [hs] at hb; cases hb
  · have := HM.out.size; simp [Value.ownBlock] at hb hb2; omega

theorem mapK_eq_nil : ∀ (w : World) (r : Option Nat), (binOp .eql 143 (.map r) (.map none)).run Tryz.prog w = .ok (.bool r.isNone) w :=
  fun w r => run_eql_map_nil (P := Tryz.prog) w 143 9 147 r Tryz.underlying143

theorem memLay_any (F : Nat → Prop) (t mb : Nat) (l : Tab) (k : ByteArray) (p : List UInt8 × Bool) (v : Value) (w : World) (h : TabR w F t mb l) (hv : KnR w F p v) :
    Calls Tryz.prog 129 #[P0 t, .string k, v] w fun e w' => e = .returned (.tuple #[]) ∧ TabR w' F t mb (mput k p l) ∧ Mod (only mb) w w' := by
  obtain ⟨s, rfl, hs, -⟩ := id hv
  obtain ⟨A, cap, rfl, -⟩ := id hs
  clear hs
  obtain ⟨g1, g2, g3, g4, raw, g5, g6⟩ := h
  have hm0 : Mod no w (w.alloc (.cells #[.slice A p.1.length cap, .bool p.2] 147)) := (Mod.refl no w).alloc _
  have g1' := hm0.heap g1 (no_false _)
  have c0 : (w.alloc (.cells #[.slice A p.1.length cap, .bool p.2] 147)).cell? ⟨t, 0, none⟩ = some (.map (some mb)) := cell_of_heap g1'
  have g5' := g5.mod hm0 (no_false _)
  have G1 := Lib.hid g1
  have G5 := Lib.hid g5'
  have G6 := Lib.hid g6
  have HV := Lib.hid hv
  clear g1 g5 g6 g1' g5' hv hm0
  have hq := mapK_eq_nil
  go_enter Tryz.func129, Tryz.ntmps129
  go_wp2_with fail
  obtain ⟨W, hW⟩ : ∃ W, W = w.alloc (.cells #[.slice A p.1.length cap, .bool p.2] 147) := ⟨_, rfl⟩
  have d0 : W.cell? ⟨w.heap.size, 0, none⟩ = some (.slice A p.1.length cap) := by rw [hW]; exact cell_of_heap (heap_alloc_new w _)
  have d1 : W.cell? ⟨w.heap.size, 1, none⟩ = some (.bool p.2) := by rw [hW]; exact cell_of_heap (heap_alloc_new w _)
  have hm0 : Mod no w W := by rw [hW]; exact (Mod.refl no w).alloc _
  rw [← hW] at G5 c0 ⊢
  have HM := Lib.hid hm0
  clear hW hm0
  go_still_tail 6, (by kernel_rfl)
  change wpList _ _ _ _ _ W.drew
  generalize hW2 : W.drew = W2
  have hm2 : Mod no w W2 := by rw [← hW2]; exact HM.out.drew
  have g5 : MapR W2 Value.string (fun v => v) mb raw := by rw [← hW2]; exact G5.out
  have HM2 := Lib.hid hm2
  have G52 := Lib.hid g5
  clear hW2 hm2 g5 d0 d1 c0 G5 HM
  go_wp2_with (at_mapUpdate; refine wp_mapUpdate keyS Tryz.underlying143 G52.out k (.agg #[.slice A p.1.length cap, .bool p.2]) rfl rfl rfl rfl rfl ?_; intro w' h1 h2)
  go_end0
  have hm : Mod (only mb) w w' := (HM2.out.mono (fun _ _ f => f.elim)).trans h2
  refine ⟨rfl, ⟨hm.heap G1.out g2, g2, g3, g4, _, h1, (G6.out.put k HV.out).mono fun _ _ h => h.mod hm fun k hk e => g4 (by cases e; exact hk)⟩, hm⟩
end Go.Proofs.YtbloppbiojopaaaGreatDoor
