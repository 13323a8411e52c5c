/- Package mem: keys, Docs. -/
import Derived.Test.YtbloppbiojopaaaGreatDoorLay
import Derived.Test.YtbloppbiojopaaaGreatDoorMemC
import Derived.Test.YtbloppbiojopaaaGreatDoorKeysA
import Derived.Lib.SliceRun
set_option maxRecDepth 100000
namespace Go.Proofs.YtbloppbiojopaaaGreatDoor
open Go Go.RowKit Go.Shelf Go.Lib Go.Sort

theorem fieldKnown1 (s : Value) (b : Bool) (_ : s.oneCell' = true) (W : World) : (Instr.field 147 (.agg #[s, .bool b]) 1).run Tryz.prog W = .ok (.bool b) W := by
  unfold Instr.field
  rw [Sem.run_bind, run_underlying Tryz.underlying147]
  rfl
theorem fieldKnown0 (A : Option Addr) (l c : Nat) (b : Bool) (W : World) : (Instr.field 147 (.agg #[.slice A l c, .bool b]) 0).run Tryz.prog W = .ok (.slice A l c) W := by
  unfold Instr.field
  rw [Sem.run_bind, run_underlying Tryz.underlying147]
  rfl

/-- The closure of keys: is what is known of a key other than 'has'? -/
theorem keysC_any (t mb : Nat) (raw : List (ByteArray × Value)) (k : ByteArray) (has is : Bool) (B1 B2 : Nat) (W : World) (ht : W.cell? ⟨t, 0, none⟩ = some (.map (some mb))) (hm : MapR W Value.string (fun v : Value => v) mb raw)
    (h1 : W.cell? ⟨B1, 0, none⟩ = some (P0 t)) (h2 : W.cell? ⟨B2, 0, none⟩ = some (.bool has)) (A : Option Addr) (l cap : Nat) (hk : ((mget k raw).map (fun v => v)).getD (.agg #[.slice none 0 0, .bool false]) = .agg #[.slice A l cap, .bool is]) :
    Calls Tryz.prog 183 #[.string k, P0 B1, P0 B2] W fun e w' => e = .returned (.bool (is != has)) ∧ ∃ m, w' = W.drewN m := by
  have hl : ∀ n, (Instr.lookup 143 (.map (some mb)) (.string k) false).run Tryz.prog (W.drewN n) = .ok (.agg #[.slice A l cap, .bool is]) (W.drewN n) := fun n => by
    have := run_lookup (P := Tryz.prog) keyS Tryz.underlying143 zeroKnown (hm.mod ((Mod.refl no W).drewN n) (no_false _)) k false
    rw [hk] at this
    exact this
  clear hm hk
  have hf := fun W => fieldKnown1 (.slice A l cap) is rfl W
  go_enter Tryz.func183, Tryz.ntmps183
  go_wp2_with fail
  go_region_held3 (fun W' => W'.cell? ⟨t, 0, none⟩ = some (.map (some mb)) ∧ W'.cell? ⟨B1, 0, none⟩ = some (P0 t) ∧ W'.cell? ⟨B2, 0, none⟩ = some (.bool has) ∧ (Instr.lookup 143 (.map (some mb)) (.string k) false).run Tryz.prog W' = .ok (.agg #[.slice A l cap, .bool is]) W') (first | exact ⟨ht, h1, h2, hl 1⟩) (fail)
  all_goals (go_wp2_with fail; go_ret; exact ⟨by cases is <;> cases has <;> rfl, 1, rfl⟩)

theorem mod_sortWorld {α : Type} [Inhabited α] (enc : α → Value) (w : World) (blk off n : Nat) (dk : Array α) (os : Array Obj) : Mod (only blk) w (sortWorld enc w blk off n dk os) := by
  refine ⟨rfl, rfl, rfl, ?_, fun k hk hb => ?_⟩
  · simp [sortWorld, grow, putRow, mapBlock, Sort.ahead]
  · have h1 : k < (putRow enc (Sort.ahead w n) blk off dk).heap.size := by rw [size_putRow]; exact hk
    have h2 : ¬ blk = k := fun e => hb e.symm
    simp only [sortWorld, grow]
    rw [Array.getElem?_append_left h1]
    simp [putRow, mapBlock, Sort.ahead, Array.getElem?_modify, h2]

theorem mod_putRow {α : Type} [Inhabited α] (enc : α → Value) (w : World) (blk off n : Nat) (dk : Array α) : Mod (only blk) w (putRow enc (Sort.ahead w n) blk off dk) := by
  have := mod_sortWorld enc w blk off n dk #[]
  simpa [sortWorld] using this

/-- Is what is known of a key other than 'has'? -/
def keyNot (l : Tab) (has : Bool) (x : List UInt8) : Bool := (tabGet ⟨x.toArray⟩ l).2.1 != has

theorem raw_known {w : World} {F : Nat → Prop} {l : Tab} {raw : List (ByteArray × Value)} (h : Ents (KnR w F) l raw) (k : ByteArray) :
    ∃ A cap, ((mget k raw).map (fun v => v)).getD (.agg #[.slice none 0 0, .bool false]) = .agg #[.slice A (tabGet k l).1.length cap, .bool (tabGet k l).2.1] ∧ SlR w encB (.slice A (tabGet k l).1.length cap) (tabGet k l).1 ∧ (tabGet k l).1.length ≤ 4096 := by
  rcases h.get k with ⟨e1, e2⟩ | ⟨p, v, e1, e2, s, rfl, e3, e4, -⟩
  · have ht : tabGet k l = ([], false, false) := by simp [tabGet, e1]
    rw [ht, e2]
    exact ⟨none, 0, rfl, SlR.nil _ _, by simp⟩
  · obtain ⟨A, cap, rfl, -⟩ := id e3
    have ht : tabGet k l = (p.1, p.2, true) := by simp [tabGet, e1]
    rw [ht, e2]
    exact ⟨A, cap, rfl, e3, e4⟩

theorem keysC_gives {w : World} {F : Nat → Prop} {t mb : Nat} {l : Tab} (h : TabR w F t mb l) (has : Bool) (B1 B2 : Nat) (h1 : w.cell? ⟨B1, 0, none⟩ = some (P0 t)) (h2 : w.cell? ⟨B2, 0, none⟩ = some (.bool has)) (S : Nat → Prop) (hS : ¬ S t ∧ ¬ S mb ∧ ¬ S B1 ∧ ¬ S B2) (W : World) (hm : Mod S w W) (x : List UInt8) :
    FnGives Tryz.prog 183 #[P0 B1, P0 B2] #[encStr x] (.bool (keyNot l has x)) W := by
  obtain ⟨g1, -, -, -, raw, g5, g6⟩ := h
  obtain ⟨A, cap, e1, -, -⟩ := raw_known g6 ⟨x.toArray⟩
  exact keysC_any t mb raw ⟨x.toArray⟩ has _ B1 B2 W (hm.cell (cell_of_heap g1) hS.1) (g5.mod hm hS.2.1) (hm.cell h1 hS.2.2.1) (hm.cell h2 hS.2.2.2) A _ cap e1
end Go.Proofs.YtbloppbiojopaaaGreatDoor
