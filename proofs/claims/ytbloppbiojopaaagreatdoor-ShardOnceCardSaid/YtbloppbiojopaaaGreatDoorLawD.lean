/- ShardOnce: for every input. -/
import Derived.Test.YtbloppbiojopaaaGreatDoorLawC
set_option maxRecDepth 100000
namespace Go.Proofs.YtbloppbiojopaaaGreatDoor
open Go Go.RowKit

set_option maxHeartbeats 4000000 in
theorem lawOnce_out (c s : Int) (k : ByteArray) (Aa Ab : Option Addr) (la lb ca cb : Nat) (w : World)
    (h : ¬ (0 ≤ c ∧ c ≤ 1000 ∧ 1 ≤ s ∧ s ≤ 1000 ∧ 1 ≤ k.size ∧ k.size ≤ 64 ∧ la ≤ 200 ∧ lb ≤ 200)) :
    Calls Tryz.prog 3 #[.int .i64 c, .int .i64 s, .string k, .slice Aa la ca, .slice Ab lb cb] w fun e w' => e = .returned (.bool true) ∧ Mod no w w' := by
  have key : ∀ (b1 b2 b3 b4 b5 b6 b7 b8 : Bool), decide (c < 0) = b1 → decide (1000 < c) = b2 → decide (s < 1) = b3 → decide (1000 < s) = b4 → decide ((k.size : Int) < 1) = b5 → decide (64 < (k.size : Int)) = b6 → decide (200 < (la : Int)) = b7 → decide (200 < (lb : Int)) = b8 →
      (b1 || b2 || b3 || b4 || b5 || b6 || b7 || b8) = true := by
    intro b1 b2 b3 b4 b5 b6 b7 b8 h1 h2 h3 h4 h5 h6 h7 h8
    subst h1 h2 h3 h4 h5 h6 h7 h8
    simp
    omega
  generalize g1 : decide (c < 0) = b1 at key
  generalize g2 : decide (1000 < c) = b2 at key
  generalize g3 : decide (s < 1) = b3 at key
  generalize g4 : decide (1000 < s) = b4 at key
  generalize g5 : decide ((k.size : Int) < 1) = b5 at key
  generalize g6 : decide (64 < (k.size : Int)) = b6 at key
  generalize g7 : decide (200 < (la : Int)) = b7 at key
  generalize g8 : decide (200 < (lb : Int)) = b8 at key
  have hk := key b1 b2 b3 b4 b5 b6 b7 b8 rfl rfl rfl rfl rfl rfl rfl rfl
  clear key h
  have one : ∀ W, Calls Tryz.prog 5 #[] W fun e w' => e = .returned (.bool true) ∧ Mod no W w' := lawKnown_ok
  have ONE := Lib.hid one
  clear one
  cases b1
  · cases b2
    · cases b3
      · cases b4
        · cases b5
          · cases b6
            · cases b7
              · cases b8
                · simp at hk
                · clear hk
                  go_enter Tryz.func3, Tryz.ntmps3
                  go_wp2_with fail
                  refine (ONE.out _).mono ?_
                  rintro e w1 ⟨rfl, hm⟩
                  have HM := Lib.hid hm
                  clear hm
                  go_wp2_with fail
                  go_ret
                  exact ⟨rfl, HM.out⟩
              · clear hk
                go_enter Tryz.func3, Tryz.ntmps3
                go_wp2_with fail
                refine (ONE.out _).mono ?_
                rintro e w1 ⟨rfl, hm⟩
                have HM := Lib.hid hm
                clear hm
                go_wp2_with fail
                go_ret
                exact ⟨rfl, HM.out⟩
            · clear hk
              go_enter Tryz.func3, Tryz.ntmps3
              go_wp2_with fail
              refine (ONE.out _).mono ?_
              rintro e w1 ⟨rfl, hm⟩
              have HM := Lib.hid hm
              clear hm
              go_wp2_with fail
              go_ret
              exact ⟨rfl, HM.out⟩
          · clear hk
            go_enter Tryz.func3, Tryz.ntmps3
            go_wp2_with fail
            refine (ONE.out _).mono ?_
            rintro e w1 ⟨rfl, hm⟩
            have HM := Lib.hid hm
            clear hm
            go_wp2_with fail
            go_ret
            exact ⟨rfl, HM.out⟩
        · clear hk
          go_enter Tryz.func3, Tryz.ntmps3
          go_wp2_with fail
          refine (ONE.out _).mono ?_
          rintro e w1 ⟨rfl, hm⟩
          have HM := Lib.hid hm
          clear hm
          go_wp2_with fail
          go_ret
          exact ⟨rfl, HM.out⟩
      · clear hk
        go_enter Tryz.func3, Tryz.ntmps3
        go_wp2_with fail
        refine (ONE.out _).mono ?_
        rintro e w1 ⟨rfl, hm⟩
        have HM := Lib.hid hm
        clear hm
        go_wp2_with fail
        go_ret
        exact ⟨rfl, HM.out⟩
    · clear hk
      go_enter Tryz.func3, Tryz.ntmps3
      go_wp2_with fail
      refine (ONE.out _).mono ?_
      rintro e w1 ⟨rfl, hm⟩
      have HM := Lib.hid hm
      clear hm
      go_wp2_with fail
      go_ret
      exact ⟨rfl, HM.out⟩
  · clear hk
    go_enter Tryz.func3, Tryz.ntmps3
    go_wp2_with fail
    refine (ONE.out _).mono ?_
    rintro e w1 ⟨rfl, hm⟩
    have HM := Lib.hid hm
    clear hm
    go_wp2_with fail
    go_ret
    exact ⟨rfl, HM.out⟩

/-- SHARDONCE: for every input true; what was there is as it was. -/
theorem lawOnce_any (c s : Int) (k : ByteArray) (va vb : Value) (A B : List UInt8) (w : World) (ha : SlR w encB va A) (hb : SlR w encB vb B) :
    Calls Tryz.prog 3 #[.int .i64 c, .int .i64 s, .string k, va, vb] w fun e w' => e = .returned (.bool true) ∧ Mod no w w' := by
  by_cases h : 0 ≤ c ∧ c ≤ 1000 ∧ 1 ≤ s ∧ s ≤ 1000 ∧ 1 ≤ k.size ∧ k.size ≤ 64 ∧ A.length ≤ 200 ∧ B.length ≤ 200
  · obtain ⟨h1, h2, h3, h4, h5, h6, h7, h8⟩ := h
    exact lawOnce_in c s k va vb A B w ha hb h1 h2 h3 h4 h5 h6 h7 h8
  · obtain ⟨Aa, ca, rfl, -⟩ := id ha
    obtain ⟨Ab, cb, rfl, -⟩ := id hb
    exact lawOnce_out c s k Aa Ab _ _ _ _ w h
end Go.Proofs.YtbloppbiojopaaaGreatDoor
