/- The law: a shard of its own, op by op. -/
import Derived.Test.YtbloppbiojopaaaGreatDoorLawA
set_option maxRecDepth 100000
namespace Go.Proofs.YtbloppbiojopaaaGreatDoor
open Go Go.RowKit

/-- A shard of this call's own, held in a pair at block p. -/
def Sh (w0 W : World) (p : Nat) (a : ShAt) (x : ShSt) : Prop :=
  (∃ F, ShR W F a x) ∧ PairE W p a ∧ Mod no w0 W ∧ (w0.heap.size ≤ a.s ∧ w0.heap.size ≤ a.mb ∧ w0.heap.size ≤ a.sm) ∧ (p ≠ a.s ∧ p ≠ a.mb ∧ p ≠ a.sm)

theorem PairE.mod {w w' : World} {S : Nat → Prop} {p : Nat} {a : ShAt} (h : PairE w p a) (hm : Mod S w w') (hs : ¬ S p) : PairE w' p a := by
  obtain ⟨vd, vw, vx, h⟩ := h
  exact ⟨vd, vw, vx, hm.heap h hs⟩

theorem Sh.mod {w0 w w' : World} {p : Nat} {a : ShAt} {x : ShSt} (h : Sh w0 w p a x) (hm : Mod no w w') : Sh w0 w' p a x := by
  obtain ⟨⟨F, h1⟩, h2, h3, h4⟩ := h
  exact ⟨⟨F, h1.mod0 hm⟩, h2.mod hm (no_false _), h3.trans hm, h4⟩

theorem Sh.cell {w0 w : World} {p : Nat} {a : ShAt} {x : ShSt} (h : Sh w0 w p a x) : w.cell? ⟨p, 2, none⟩ = some (P0 a.s) := by
  obtain ⟨-, ⟨vd, vw, vx, h⟩, -⟩ := h
  have := cell_of_heap (i := 2) h
  simpa using this

theorem Sh.lt {w0 w : World} {p : Nat} {a : ShAt} {x : ShSt} (h : Sh w0 w p a x) : a.s < w.heap.size ∧ a.mb < w.heap.size ∧ a.sm < w.heap.size := by
  obtain ⟨⟨F, h1⟩, -⟩ := h
  obtain ⟨raw, h2, -⟩ := h1.sess
  exact ⟨(Array.getElem?_eq_some_iff.1 h1.cells).1, h1.tab.lt.2, h2.lt⟩

/-- Bytes that the shard does not turn. -/
def Kept (a : ShAt) (W : World) (v : Value) (l : List UInt8) : Prop := SlR W encB v l ∧ ∀ b, v.ownBlock = some b → ¬ shS a b

theorem Kept.mod {a : ShAt} {W W' : World} {v : Value} {l : List UInt8} (h : Kept a W v l) (hm : Mod (shS a) W W') : Kept a W' v l := ⟨RowR.mod h.1 hm h.2, h.2⟩
theorem Kept.mod0 {a : ShAt} {W W' : World} {v : Value} {l : List UInt8} (h : Kept a W v l) (hm : Mod no W W') : Kept a W' v l := h.mod (hm.mono fun _ _ f => f.elim)

theorem Sh.fresh {w0 w : World} {p : Nat} {a : ShAt} {x : ShSt} (h : Sh w0 w p a x) {v : Value} (hv : ∀ b, v.ownBlock = some b → w.heap.size ≤ b) : ∀ b, v.ownBlock = some b → ¬ shS a b := fun b hb e => by
  have h1 := h.lt
  have h2 := hv b hb
  unfold shS at e
  omega

theorem Sh.old {w0 w : World} {p : Nat} {a : ShAt} {x : ShSt} (h : Sh w0 w p a x) {v : Value} (hv : ∀ b, v.ownBlock = some b → b < w0.heap.size) : ∀ b, v.ownBlock = some b → ¬ shS a b := fun b hb e => by
  have h1 := h.2.2.2.1
  have h2 := hv b hb
  unfold shS at e
  omega

theorem put_step {w0 W : World} {p : Nat} {a : ShAt} {x : ShSt} (h : Sh w0 W p a x) (kind client seq : Int) (k : ByteArray) (vt : Value) (text : List UInt8) (hok : OpOk kind client seq k text) (ht : SlR W encB vt text) :
    Calls Tryz.prog 8 #[.int .i64 kind, .int .i64 client, .int .i64 seq, .string k, vt] W fun e w' => ∃ v, e = .returned v ∧ Sh w0 w' p a x ∧ Kept a w' v (opEnc kind client seq k text) ∧ Mod no W w' := by
  refine (lawPut_ok kind client seq k vt text W hok ht).mono ?_
  rintro e w' ⟨v, rfl, hn⟩
  exact ⟨v, rfl, h.mod hn.2, ⟨RowR.ofOwns hn.1, h.fresh fun b hb => (owns_block hn.1 b hb).1⟩, hn.2⟩

theorem apply_step {w0 W : World} {p : Nat} {a : ShAt} {x : ShSt} (h : Sh w0 W p a x) (kind client seq : Int) (k : ByteArray) (vd : Value) (text : List UInt8) (hok : OpOk kind client seq k text) (hd : Kept a W vd (opEnc kind client seq k text)) (n : Int) (hn : n = x.applied + 1) (ha0 : 0 ≤ x.applied) (ha : x.applied ≤ 100000) (hlen : x.tab.length ≤ 6)
    (q : ShSt × List UInt8) (hq : applySt x kind client seq k text = q) :
    Calls Tryz.prog 7 #[P0 a.s, .int .i64 n, vd] W fun e w' => ∃ v, e = .returned v ∧ Sh w0 w' p a q.1 ∧ Kept a w' v q.2 ∧ Mod (shS a) W w' := by
  subst hn hq
  obtain ⟨⟨F, h1⟩, h2, h3, h4, h5⟩ := id h
  refine (shApply_ok F a x kind client seq k vd text W hok hd.1 h1 (fun b hb e => hd.2 b hb (.inl e)) ha0 (by omega) hlen).mono ?_
  rintro e w' ⟨v, rfl, g1, g2, n1, n2, g3, g4, g5, g6⟩
  have hmn : Mod no w0 w' := h3.andThen g6 fun i hi e => by unfold shS at e; omega
  exact ⟨v, rfl, ⟨⟨_, g3⟩, h2.mod g6 (fun e => by unfold shS at e; omega), hmn, h4, h5⟩, ⟨g1, h.fresh g2⟩, g6⟩

theorem get_step {w0 W : World} {p : Nat} {a : ShAt} {x : ShSt} (h : Sh w0 W p a x) (k : ByteArray) (q : List UInt8 × Bool × Bool) (hq : tabGet k x.tab = q) :
    Calls Tryz.prog 9 #[P0 a.s, .string k] W fun e w' => ∃ v, e = .returned (.tuple #[v, .bool q.2.1]) ∧ Sh w0 w' p a x ∧ Kept a w' v q.1 ∧ Mod no W w' := by
  subst hq
  obtain ⟨F, h1⟩ := h.1
  refine (shGet_any F a x k W h1).mono ?_
  rintro e w' ⟨v, rfl, g1, g2, g3⟩
  exact ⟨v, rfl, h.mod g3, ⟨g1, h.fresh g2⟩, g3⟩

theorem applied_step {w0 W : World} {p : Nat} {a : ShAt} {x : ShSt} (h : Sh w0 W p a x) :
    Calls Tryz.prog 11 #[P0 a.s] W fun e w' => e = .returned (.int .i64 x.applied) ∧ w' = W := by
  obtain ⟨F, h1⟩ := h.1
  have c7 := cell_of_heap (i := 7) h1.cells
  simp only [List.getElem?_toArray, List.getElem?_cons_zero, List.getElem?_cons_succ] at c7
  clear h h1
  go_enter Tryz.func11, Tryz.ntmps11
  go_wp2
  go_ret
  exact ⟨rfl, rfl⟩

theorem same_is (va vb : Value) (l : List UInt8) (W : World) (ha : SlR W encB va l) (hb : SlR W encB vb l) :
    Calls Tryz.prog 10 #[va, vb] W fun e w' => e = .returned (.bool true) ∧ Mod no W w' := by
  refine (same_any va vb l l W ha hb).mono ?_
  rintro e w' ⟨rfl, n, rfl⟩
  exact ⟨by simp, (Mod.refl no W).drewN n⟩

theorem rowB (w : World) (l : List UInt8) (n b : Nat) (hn : n = l.length) (hb : b = w.heap.size) (hl : l.length ≤ 1000) : SlR (w.alloc (.cells (l.map encB).toArray 5)) encB (.slice (some ⟨b, 0, none⟩) n n) l := by
  subst hn
  exact RowR.madeAt w (l.map encB) 5 l.length b hb (by omega)

theorem start_step (room : Int) (w : World) (h1 : 0 ≤ room) (h2 : room ≤ 1073741824) :
    Calls Tryz.prog 6 #[.int .i64 room] w fun e w' => ∃ p a, e = .returned (.tuple #[P0 p, .bool true]) ∧ Sh w w' p a ⟨[], [], 0, 0, 1⟩ := by
  refine (lawStart_ok room w h1 h2).mono ?_
  rintro e w' ⟨p, a, rfl, g1, g2, g3, g4⟩
  exact ⟨p, a, rfl, ⟨_, g1⟩, g3, g4, by omega, by omega⟩
end Go.Proofs.YtbloppbiojopaaaGreatDoor
