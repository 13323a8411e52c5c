/- The laws' comparison of two rows of places. -/
import Derived.Test.YtbloppbiojopaaaGreatDoorMemG
import Derived.Laws.StructEq
set_option maxRecDepth 100000
namespace Go.Proofs.YtbloppbiojopaaaGreatDoor
open Go Go.RowKit

/-- A place of a row of two-cell elements. -/
theorem SlK.pos2 {α : Type} {w : World} {f g : α → Value} {A : Option Addr} {n cap : Nat} {l : List α} (h : SlK w (fun x => [f x, g x]) (.slice A n cap) l) {k : Nat} (hk : k < l.length) :
    ∃ b off, A = some ⟨b, off, none⟩ ∧ w.cell? ⟨b, off + k * 2, none⟩ = some (f l[k]) ∧ w.cell? ⟨b, off + k * 2 + 1, none⟩ = some (g l[k]) := by
  have hi : ∀ (l : List α) (k : Nat) (hk : k < l.length), (l.flatMap fun x => [f x, g x])[k * 2]? = some (f l[k]) ∧ (l.flatMap fun x => [f x, g x])[k * 2 + 1]? = some (g l[k]) := by
    intro l
    induction l with
    | nil => intro k hk; simp at hk
    | cons a l ih =>
      intro k hk
      cases k with
      | zero => simp
      | succ k =>
        have := ih k (by simpa using hk)
        rw [show (k + 1) * 2 = k * 2 + 2 by omega]
        simpa using this
  obtain ⟨A1, c1, e1, -, -, h3, h4⟩ := h
  injection e1 with e1 e2 e3
  subst e1 e3
  obtain ⟨i1, i2⟩ := hi l k hk
  cases A with
  | none => have := (h3 rfl).2; rw [this] at i1; simp at i1
  | some a =>
    obtain ⟨pb, off, sp⟩ := a
    obtain rfl : sp = none := (h4 _ rfl).1
    refine ⟨pb, off, rfl, (h4 _ rfl).2.2 _ _ i1, ?_⟩
    have := (h4 _ rfl).2.2 _ _ i2
    rwa [← Nat.add_assoc] at this

theorem encStr_inj {a b : List UInt8} (h : encStr a = encStr b) : a = b := by
  injection h with h
  have := congrArg ByteArray.data h
  have := congrArg Array.toList this
  simpa using this

set_option maxHeartbeats 1000000 in
theorem matches_any (va vb : Value) (a b : List (List UInt8 × Nat)) (w : World) (ha : SlK w encM va a) (hb : SlK w encM vb b) :
    Calls Tryz.prog 21 #[va, vb] w fun e w' => e = .returned (.bool (decide (a = b))) ∧ Mod no w w' := by
  obtain ⟨A, ca, rfl, ha1, ha2, -⟩ := id ha
  obtain ⟨B, cb, rfl, hb1, hb2, -⟩ := id hb
  have HA := Lib.hid ha
  have HB := Lib.hid hb
  unfold maxLen at ha2 hb2
  clear ha hb
  by_cases hl : a.length = b.length
  · have h1 : ((a.length : Int) == (b.length : Int)) = true := by simp; omega
    have h2 : ((a.length : Int) != (b.length : Int)) = false := by simp; omega
    have HL := Lib.hid hl
    clear hl
    go_enter Tryz.func21, Tryz.ntmps21
    go_wp2
    go_loopw [5] (fun i wr => ∃ k : Nat, k ≤ a.length ∧ i = .int .i64 k ∧ a.take k = b.take k ∧ ∃ n, wr = w.drewN n) (fun i _ => a.length - (intOf i).toNat)
    case atStart => exact ⟨0, by omega, rfl, rfl, 0, rfl⟩
    case round =>
      obtain ⟨k, hk, rfl, he, n, rfl⟩ := hrel
      have HE := Lib.hid he
      clear he
      by_cases hlt : k < a.length
      · have hltb : k < b.length := by have := HL.out; omega
        obtain ⟨pb, off, rfl, hc0, hc1⟩ := SlK.pos2 HA.out hlt
        obtain ⟨qb, qff, rfl, hd0, hd1⟩ := SlK.pos2 HB.out hltb
        obtain ⟨x, hxe⟩ : ∃ x, x = a[k] := ⟨_, rfl⟩
        obtain ⟨y, hye⟩ : ∃ y, y = b[k] := ⟨_, rfl⟩
        rw [← hxe] at hc0 hc1
        rw [← hye] at hd0 hd1
        obtain ⟨x1, x2⟩ := x
        obtain ⟨y1, y2⟩ := y
        simp only at hc0 hc1 hd0 hd1
        by_cases hxy : (x1, x2) = (y1, y2)
        · injection hxy with e1 e2
          subst e1 e2
          have HXY : Hid (a[k] = b[k]) := Lib.hid (by rw [← hxe, ← hye])
          clear hxe hye
          go_wp2
          go_quiet (fail)
          go_wp2
          refine ⟨⟨k + 1, by omega, by go_num, ?_, _, rfl⟩, by simp [intOf]; omega⟩
          rw [List.take_succ_eq_append_getElem hlt, List.take_succ_eq_append_getElem hltb, HE.out, HXY.out]
        · have HXY : Hid (a[k] ≠ b[k]) := Lib.hid (by rw [← hxe, ← hye]; exact hxy)
          have hne : ∀ W, (binOp .neq 61 (.agg #[encStr x1, .int .i64 x2]) (.agg #[encStr y1, .int .i64 y2])).run Tryz.prog W = .ok (.bool true) W := by
            intro W
            rw [run_neq_struct]
            simp [go_sem]
            intro e1 e2
            exact hxy (by rw [e1, Int.ofNat_inj.1 e2])
          clear hxe hye hxy
          go_wp2
          go_quiet (fail)
          go_wp2
          go_ret
          have : ¬ a = b := fun e => HXY.out (by subst e; rfl)
          exact ⟨by simp [this], ((Mod.refl no w).drewN _).drewN _⟩
      · obtain rfl : k = a.length := by omega
        go_wp2
        go_ret
        have : a = b := by
          have := HE.out
          rwa [List.take_length, HL.out, List.take_length] at this
        exact ⟨by simp [this], (Mod.refl no w).drewN _⟩
  · have h1 : ((a.length : Int) == (b.length : Int)) = false := by simp; omega
    have h2 : ((a.length : Int) != (b.length : Int)) = true := by simp; omega
    go_enter Tryz.func21, Tryz.ntmps21
    go_wp2
    go_ret
    refine ⟨?_, Mod.refl no w⟩
    have : ¬ a = b := fun e => hl (by rw [e])
    simp [this]
end Go.Proofs.YtbloppbiojopaaaGreatDoor
