/- Package op, and package haystackref13: an op as bytes, and back. -/
import Derived.Test.YtbloppbiojopaaaGreatDoorRef1
import Derived.Test.YtbloppbiojopaaaGreatDoorOctP
import Derived.LoopN
set_option maxRecDepth 100000
namespace Go.Proofs.YtbloppbiojopaaaGreatDoor
open Go Go.RowKit

theorem two_l (a b : Nat) : two a b a := .inl rfl
theorem two_r (a b : Nat) : two a b b := .inr rfl

/-- Three numbers, into the first fields of a struct. -/
theorem RNums3 (r bc ob : Nat) (l : List UInt8) (bad : Bool) (x0 x1 x2 x3 x4 vp : Value) (w : World) (h : IsRd w r bc l bad) (ho : w.heap[ob]? = some (.cells #[x0, x1, x2, x3, x4] 58 (0, 0))) (hne : ob ≠ r) (hbc : bc ≠ ob)
    (hp : RowR w vp 3 [.pointer (some ⟨ob, 0, none⟩), .pointer (some ⟨ob, 1, none⟩), .pointer (some ⟨ob, 2, none⟩)]) (hv : ∀ k, vp.ownBlock = some k → k ≠ r ∧ k ≠ ob) (q1 q2 q3 : RdN) (h1 : rdNum l bad = q1) (h2 : rdNum q1.l q1.bad = q2) (h3 : rdNum q2.l q2.bad = q3) :
    Calls Tryz.prog 65 #[P0 r, vp] w fun e w' => e = .returned (.tuple #[]) ∧ IsRd w' r bc q3.l q3.bad ∧ w'.heap[ob]? = some (.cells #[.int .i64 q1.n, .int .i64 q2.n, .int .i64 q3.n, x3, x4] 58 (0, 0)) ∧ Mod (two r ob) w w' := by
  obtain ⟨A, cap, rfl, hc1, hc2, hc3, hc4⟩ := hp
  obtain ⟨a, rfl⟩ : ∃ a, A = some a := by
    cases A with
    | none => have := (hc3 rfl).2; simp at this
    | some a => exact ⟨a, rfl⟩
  obtain ⟨pb, off, sp⟩ := a
  obtain ⟨hsp, hpb, hcc⟩ := hc4 _ rfl
  obtain rfl : sp = none := hsp
  obtain ⟨v1, v2⟩ := hv pb rfl
  have d0 := hcc 0 _ rfl
  have d1 := hcc 1 _ rfl
  have d2 := hcc 2 _ rfl
  simp only [Nat.add_zero] at d0
  have H := Lib.hid h
  have HO := Lib.hid ho
  have H1 := Lib.hid h1
  have H2 := Lib.hid h2
  have H3 := Lib.hid h3
  have hnr : ¬ only r ob := hne
  have hor : ¬ only ob r := fun e => hne e.symm
  have HNR := Lib.hid hnr
  have HOR := Lib.hid hor
  have V1 : Hid (¬ only r pb) := Lib.hid v1
  have V2 : Hid (¬ only ob pb) := Lib.hid v2
  have D1 := Lib.hid d1
  have D2 := Lib.hid d2
  clear h ho h1 h2 h3 hc3 hc4 hcc hnr hor v1 v2 hv hc1 hc2 d1 d2
  have HBC : Hid (¬ only ob bc) := Lib.hid hbc
  clear hbc hne
  go_enter Tryz.func65, Tryz.ntmps65
  go_wp2
  refine wp_loop_rounds 4 ?_
  rw [rounds_succ]
  go_wp2_with fail
  refine (RNum_any r bc l bad w H.out).mono ?_
  rintro e w1 ⟨rfl, g1, m1⟩
  rw [H1.out] at g1 ⊢
  have ho1 := m1.heap HO.out HNR.out
  have k0 : w1.cell? ⟨ob, 0, none⟩ = some x0 := cell_of_heap ho1
  have k1 : w1.frozen? ⟨ob, 0, none⟩ = false := free_of_heap ho1
  have p1 := (Mod.refl (only ob) w1).put (i := 0) (only_self ob) (.int .i64 q1.n)
  have G1 := Lib.hid (IsRd.mod g1 p1 HOR.out HBC.out)
  have HO1 := Lib.hid (heap_setCell_same (i := 0) ho1 (.int .i64 q1.n))
  have M1 := Lib.hid ((m1.mono (T := two r ob) (fun _ _ h => .inl h)).trans (p1.mono (fun _ _ h => .inr h)))
  have d1 := p1.cell (m1.cell D1.out V1.out) V2.out
  have e2 := p1.cell (m1.cell D2.out V1.out) V2.out
  have E2 := Lib.hid e2
  clear g1 ho1 m1 d0 p1 e2
  go_wp2_with fail
  rw [rounds_succ]
  go_wp2_with fail
  refine (RNum_any r bc q1.l q1.bad _ G1.out).mono ?_
  rintro e w2 ⟨rfl, g1, m1⟩
  rw [H2.out] at g1 ⊢
  have ho1 := m1.heap HO1.out HNR.out
  have l0 : w2.cell? ⟨ob, 1, none⟩ = some x1 := cell_of_heap ho1
  have l1 : w2.frozen? ⟨ob, 1, none⟩ = false := free_of_heap ho1
  have p1 := (Mod.refl (only ob) w2).put (i := 1) (only_self ob) (.int .i64 q2.n)
  have G2 := Lib.hid (IsRd.mod g1 p1 HOR.out HBC.out)
  have HO2 := Lib.hid (heap_setCell_same (i := 1) ho1 (.int .i64 q2.n))
  have M2 := Lib.hid (M1.out.trans ((m1.mono (T := two r ob) (fun _ _ h => .inl h)).trans (p1.mono (fun _ _ h => .inr h))))
  have d2 := p1.cell (m1.cell E2.out V1.out) V2.out
  clear g1 ho1 m1 p1 d1 k0 k1 E2
  go_wp2_with fail
  rw [rounds_succ]
  go_wp2_with fail
  refine (RNum_any r bc q2.l q2.bad _ G2.out).mono ?_
  rintro e w3 ⟨rfl, g1, m1⟩
  rw [H3.out] at g1 ⊢
  have ho1 := m1.heap HO2.out HNR.out
  have k0 : w3.cell? ⟨ob, 2, none⟩ = some x2 := cell_of_heap ho1
  have k1 : w3.frozen? ⟨ob, 2, none⟩ = false := free_of_heap ho1
  have p1 := (Mod.refl (only ob) w3).put (i := 2) (only_self ob) (.int .i64 q3.n)
  have G3 := Lib.hid (IsRd.mod g1 p1 HOR.out HBC.out)
  have HO3 := Lib.hid (heap_setCell_same (i := 2) ho1 (.int .i64 q3.n))
  have M3 := Lib.hid (M2.out.trans ((m1.mono (T := two r ob) (fun _ _ h => .inl h)).trans (p1.mono (fun _ _ h => .inr h))))
  clear g1 ho1 m1 p1 d2 l0 l1
  go_wp2_with fail
  rw [rounds_succ]
  go_wp2_with fail
  go_end0
  exact ⟨rfl, G3.out, HO3.out, M3.out⟩
end Go.Proofs.YtbloppbiojopaaaGreatDoor
