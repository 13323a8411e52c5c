/- Words on worlds, used by all texts of this claim: which blocks a call may have turned ('Mod'), slices that read as lists ('SlR'), and their laws. -/
import Derived.WalkKit
import Derived.Lib.Hide
import Derived.Deep.QuietTactic
import Derived.BigQuiet
import Derived.WalkSpells
import Derived.Lib.MinMax
import Derived.Deep.DeepMust
import Derived.Deep.DeepFit
import Derived.Maps.AppendAt
import Derived.Laws.AppendOwnNone
import Derived.WalkLawsBesides
namespace Go.Proofs.YtbloppbiojopaaaGreatDoor
open Go Go.RowKit

/-- w' is w, but for the blocks of S and for new blocks. -/
structure Mod (S : Nat → Prop) (w w' : World) : Prop where
  os : w'.os = w.os
  tape : w'.tape = w.tape
  output : w'.output = w.output
  size : w.heap.size ≤ w'.heap.size
  block : ∀ k, k < w.heap.size → ¬ S k → w'.heap[k]? = w.heap[k]?

def no : Nat → Prop := fun _ => False
def only (b : Nat) : Nat → Prop := fun k => k = b
def two (b c : Nat) : Nat → Prop := fun k => k = b ∨ k = c

theorem Mod.refl (S : Nat → Prop) (w : World) : Mod S w w := ⟨rfl, rfl, rfl, Nat.le_refl _, fun _ _ _ => rfl⟩

theorem Mod.trans {S : Nat → Prop} {a b c : World} (h : Mod S a b) (k : Mod S b c) : Mod S a c :=
  ⟨k.os.trans h.os, k.tape.trans h.tape, k.output.trans h.output, Nat.le_trans h.size k.size, fun i hi hs => (k.block i (Nat.lt_of_lt_of_le hi h.size) hs).trans (h.block i hi hs)⟩

/-- What the second call turned may lie in what the first has laid. -/
theorem Mod.andThen {S T : Nat → Prop} {a b c : World} (h : Mod S a b) (k : Mod T b c) (hT : ∀ i, i < a.heap.size → T i → S i) : Mod S a c :=
  ⟨k.os.trans h.os, k.tape.trans h.tape, k.output.trans h.output, Nat.le_trans h.size k.size, fun i hi hs => (k.block i (Nat.lt_of_lt_of_le hi h.size) (fun t => hs (hT i hi t))).trans (h.block i hi hs)⟩

theorem Mod.mono {S T : Nat → Prop} {a b : World} (h : Mod S a b) (hS : ∀ i, i < a.heap.size → S i → T i) : Mod T a b :=
  ⟨h.os, h.tape, h.output, h.size, fun i hi ht => h.block i hi (fun s => ht (hS i hi s))⟩

theorem Mod.drew {S : Nat → Prop} {a w : World} (h : Mod S a w) : Mod S a w.drew := ⟨h.os, h.tape, h.output, h.size, h.block⟩
theorem Mod.drewN {S : Nat → Prop} {a w : World} (h : Mod S a w) (n : Nat) : Mod S a (w.drewN n) := ⟨h.os, h.tape, h.output, h.size, h.block⟩
theorem Mod.alloc {S : Nat → Prop} {a w : World} (h : Mod S a w) (o : Obj) : Mod S a (w.alloc o) :=
  h.trans ⟨rfl, rfl, rfl, by simp, fun k hk _ => Below.heap_alloc _ _ _ (by omega)⟩
theorem Mod.setCell {S : Nat → Prop} {a w : World} (h : Mod S a w) {p : Addr} (hp : p.block < a.heap.size → S p.block) (u : Value) : Mod S a (w.setCell p u) :=
  ⟨h.os, h.tape, h.output, by simpa [World.setCell] using h.size, fun k hk hs => by
    rw [Below.heap_setCell _ _ _ _ (fun e => hs (by subst e; exact hp hk))]; exact h.block k hk hs⟩
theorem Mod.put {S : Nat → Prop} {a w : World} (h : Mod S a w) {b i : Nat} (hb : S b) (u : Value) : Mod S a (w.setCell ⟨b, i, none⟩ u) := h.setCell (fun _ => hb) u
/-- A store into a block that is new. -/
theorem Mod.putNew {S : Nat → Prop} {a w : World} (h : Mod S a w) {b i : Nat} (hb : a.heap.size ≤ b) (u : Value) : Mod S a (w.setCell ⟨b, i, none⟩ u) := h.setCell (fun h => absurd h (Nat.not_lt.2 hb)) u
theorem only_self (b : Nat) : only b b := rfl
theorem Mod.of_grownBy {w w' : World} {row : Option Nat} (h : w.grownBy w' row) : Mod (fun k => some k = row) w w' := ⟨h.os, h.tape, h.output, h.size, h.block⟩
theorem Mod.of_below {B : Nat} {w w' : World} (h : Below B w w') : Mod (fun k => B ≤ k) w w' := ⟨h.os, h.tape, h.output, h.size, fun k _ hs => h.block k (by omega)⟩
theorem Mod.of_below_size {w w' : World} (h : Below w.heap.size w w') : Mod no w w' := ⟨h.os, h.tape, h.output, h.size, fun k hk _ => h.block k hk⟩
theorem Mod.below {w w' : World} (h : Mod no w w') : Below w.heap.size w w' := ⟨h.os, h.tape, h.output, h.size, fun k hk => h.block k hk (fun f => f)⟩
theorem Mod.belowB {S : Nat → Prop} {B : Nat} {w w' : World} (h : Mod S w w') (hB : B ≤ w.heap.size) (hS : ∀ k, k < B → ¬ S k) : Below B w w' := ⟨h.os, h.tape, h.output, h.size, fun k hk => h.block k (by omega) (hS k hk)⟩

theorem Mod.cell {S : Nat → Prop} {w w' : World} (h : Mod S w w') {p : Addr} {v : Value} (hc : w.cell? p = some v) (hs : ¬ S p.block) : w'.cell? p = some v :=
  (World.cell?_of_block (h.block p.block (World.block_lt_of_cell? w _ hc) hs)).trans hc
theorem Mod.heap {S : Nat → Prop} {w w' : World} (h : Mod S w w') {k : Nat} {o : Obj} (hc : w.heap[k]? = some o) (hs : ¬ S k) : w'.heap[k]? = some o :=
  (h.block k (Array.getElem?_eq_some_iff.1 hc).1 hs).trans hc

theorem heap_setCell_same {w : World} {b i : Nat} {c : Array Value} {T : TypeId} {fr : Nat × Nat} (h : w.heap[b]? = some (.cells c T fr)) (v : Value) :
    (w.setCell ⟨b, i, none⟩ v).heap[b]? = some (.cells (c.setIfInBounds i v) T fr) := by
  simp [World.setCell, Array.getElem?_modify, h]

theorem cell_of_heap {w : World} {b i : Nat} {c : Array Value} {T : TypeId} {fr : Nat × Nat} (h : w.heap[b]? = some (.cells c T fr)) : w.cell? ⟨b, i, none⟩ = c[i]? := by
  simp [World.cell?, h]
theorem free_of_heap {w : World} {b i : Nat} {c : Array Value} {T : TypeId} (h : w.heap[b]? = some (.cells c T (0, 0))) : w.frozen? ⟨b, i, none⟩ = false := by
  simp [World.frozen?, h]

/-- A slice value of n elements whose cells are xs. -/
def RowR (w : World) (v : Value) (n : Nat) (xs : List Value) : Prop :=
  ∃ A cap, v = .slice A n cap ∧ n ≤ cap ∧ cap ≤ maxLen ∧ (A = none → cap = 0 ∧ xs = []) ∧
    ∀ a, A = some a → a.spot = none ∧ a.block < w.heap.size ∧ ∀ j u, xs[j]? = some u → w.cell? ⟨a.block, a.off + j, none⟩ = some u

/-- .. of one-cell elements. -/
def SlR {α : Type} (w : World) (enc : α → Value) (v : Value) (l : List α) : Prop := RowR w v l.length (l.map enc)
/-- .. of elements of several cells. -/
def SlK {α : Type} (w : World) (enc : α → List Value) (v : Value) (l : List α) : Prop := RowR w v l.length (l.flatMap enc)

theorem RowR.mod {S : Nat → Prop} {w w' : World} {v : Value} {n : Nat} {xs : List Value} (h : RowR w v n xs) (hm : Mod S w w') (hs : ∀ k, v.ownBlock = some k → ¬ S k) : RowR w' v n xs := by
  obtain ⟨A, cap, rfl, h1, h2, h3, h4⟩ := h
  refine ⟨A, cap, rfl, h1, h2, h3, fun a ha => ?_⟩
  obtain ⟨h5, h6, h7⟩ := h4 a ha
  exact ⟨h5, Nat.lt_of_lt_of_le h6 hm.size, fun j u hu => hm.cell (h7 j u hu) (hs _ (by subst ha; rfl))⟩

theorem RowR.ofOwns {w : World} {base : Nat} {e : TypeId} {size : Nat} {v : Value} {n : Nat} {xs : List Value} (h : w.ownsRow base e size v n xs) : RowR w v n xs := by
  have hc : ∀ g, v.ownBlock = some g → _ := fun g hg => h.cells (g := g) hg
  have hl := h.1
  rcases h.2 with ⟨rfl, rfl⟩ | ⟨g, cap, cur, rfl, hb, hg, h1, h2, h3, h4⟩
  · exact ⟨none, 0, rfl, by omega, by unfold maxLen; omega, (fun _ => ⟨rfl, List.eq_nil_of_length_eq_zero (by simpa using hl)⟩), fun a ha => by cases ha⟩
  · refine ⟨_, cap, rfl, h1, h2, (fun h => by cases h), fun a ha => ?_⟩
    cases ha
    refine ⟨rfl, (Array.getElem?_eq_some_iff.1 hg).1, fun j u hu => ?_⟩
    have := hc g rfl j u hu
    simpa [Addr.add_lit] using this

theorem SlR.mk {α : Type} {w : World} {enc : α → Value} {b off n cap : Nat} {l : List α} (hn : n = l.length) (h1 : n ≤ cap) (h2 : cap ≤ maxLen) (hb : b < w.heap.size)
    (hc : ∀ j u, (l.map enc)[j]? = some u → w.cell? ⟨b, off + j, none⟩ = some u) : SlR w enc (.slice (some ⟨b, off, none⟩) n cap) l := by
  subst hn
  exact ⟨_, cap, rfl, h1, h2, (fun h => by cases h), fun a ha => by cases ha; exact ⟨rfl, hb, hc⟩⟩

/-- Behind 's[k:]', as the model spells it: at the end of the capacity the old address stays. -/
theorem SlR.drop {α : Type} {w : World} {enc : α → Value} {b off cap : Nat} {l : List α} (h : SlR w enc (.slice (some ⟨b, off, none⟩) l.length cap) l) (k : Nat) (hk : k ≤ l.length) :
    (cap = k → SlR w enc (.slice (some ⟨b, off, none⟩) (l.length - k) 0) (l.drop k)) ∧ SlR w enc (.slice (some ⟨b, off + k, none⟩) (l.length - k) (cap - k)) (l.drop k) := by
  obtain ⟨A, cap', he, h1, h2, h3, h4⟩ := h
  injection he with e1 e2 e3
  subst e1 e3
  obtain ⟨-, hb, hc⟩ := h4 _ rfl
  refine ⟨fun he => ?_, SlR.mk (by simp) (by omega) (by omega) hb fun j u hu => ?_⟩
  · refine SlR.mk (by simp) (by omega) (by omega) hb fun j u hu => ?_
    rw [List.drop_eq_nil_of_le (by omega)] at hu
    simp at hu
  · rw [List.map_drop, List.getElem?_drop] at hu
    have := hc _ _ hu
    rwa [← Nat.add_assoc] at this

/-- .. and behind 's[:k]'. -/
theorem SlR.take {α : Type} {w : World} {enc : α → Value} {b off cap : Nat} {l : List α} (h : SlR w enc (.slice (some ⟨b, off, none⟩) l.length cap) l) (k : Nat) (hk : k ≤ l.length) :
    SlR w enc (.slice (some ⟨b, off, none⟩) k cap) (l.take k) := by
  obtain ⟨A, cap', he, h1, h2, h3, h4⟩ := h
  injection he with e1 e2 e3
  subst e1 e3
  obtain ⟨-, hb, hc⟩ := h4 _ rfl
  refine SlR.mk (by simp; omega) (by omega) h2 hb fun j u hu => ?_
  rw [List.map_take, List.getElem?_take] at hu
  split at hu
  · exact hc _ _ hu
  · cases hu

theorem owns_slice {w : World} {base : Nat} {e : TypeId} {size : Nat} {v : Value} {n : Nat} {xs : List Value} (h : w.ownsRow base e size v n xs) : ∃ A cap, v = .slice A n cap := by
  rcases h.2 with ⟨rfl, rfl⟩ | ⟨g, cap, cur, rfl, _⟩
  · exact ⟨_, _, rfl⟩
  · exact ⟨_, _, rfl⟩

theorem owns_mod {w w' : World} {S : Nat → Prop} {base : Nat} {e : TypeId} {size : Nat} {v : Value} {n : Nat} {xs : List Value} (h : w.ownsRow base e size v n xs) (hm : Mod S w w') (hs : ∀ k, v.ownBlock = some k → ¬ S k) : w'.ownsRow base e size v n xs := by
  refine ⟨h.1, ?_⟩
  rcases h.2 with hn | ⟨g, cap, cur, rfl, hb, hgg, rest⟩
  · exact .inl hn
  · exact .inr ⟨g, cap, cur, rfl, hb, hm.heap hgg (hs g rfl), rest⟩

theorem owns_base {w : World} {base base' : Nat} {e : TypeId} {size : Nat} {v : Value} {n : Nat} {xs : List Value} (h : w.ownsRow base e size v n xs) (hb : base' ≤ base) : w.ownsRow base' e size v n xs := by
  refine ⟨h.1, ?_⟩
  rcases h.2 with hn | ⟨g, cap, cur, rfl, h1, rest⟩
  · exact .inl hn
  · exact .inr ⟨g, cap, cur, rfl, by omega, rest⟩

theorem RowR.made (w : World) (cs : List Value) (T : TypeId) (n : Nat) (hn : n ≤ 1000000) : RowR (w.alloc (.cells cs.toArray T)) (.slice (some ⟨w.heap.size, 0, none⟩) n n) n cs := by
  refine ⟨_, n, rfl, Nat.le_refl _, by unfold maxLen; omega, (fun h => by cases h), fun a ha => ?_⟩
  cases ha
  refine ⟨rfl, by simp, fun j u hu => ?_⟩
  rw [Nat.zero_add, cell_of_heap (heap_alloc_new w _)]
  simpa using hu

theorem RowR.lt {w : World} {v : Value} {n : Nat} {xs : List Value} (h : RowR w v n xs) (k : Nat) (hk : v.ownBlock = some k) : k < w.heap.size := by
  obtain ⟨A, cap, rfl, _, _, _, h4⟩ := h
  cases A with
  | none => simp [Value.ownBlock] at hk
  | some a => simp [Value.ownBlock] at hk; subst hk; exact (h4 _ rfl).2.1

/-- .. its number written otherwise. -/
theorem RowR.madeAt (w : World) (cs : List Value) (T : TypeId) (n b : Nat) (hb : b = w.heap.size) (hn : n ≤ 1000000) : RowR (w.alloc (.cells cs.toArray T)) (.slice (some ⟨b, 0, none⟩) n n) n cs := by
  subst hb; exact RowR.made w cs T n hn

theorem RowR.nil (w : World) : RowR w (.slice none 0 0) 0 [] := ⟨none, 0, rfl, by simp, by unfold maxLen; omega, fun _ => ⟨rfl, rfl⟩, fun a ha => by cases ha⟩
theorem SlR.nil {α : Type} (enc : α → Value) (w : World) : SlR w enc (.slice none 0 0) [] := RowR.nil w
theorem SlK.nil {α : Type} (enc : α → List Value) (w : World) : SlK w enc (.slice none 0 0) [] := RowR.nil w

/-- Of a slice type's element type: its zero value, its cells, its bytes. -/
structure ElemOk (P : Program) (t e : TypeId) (z : Value) (size bytes : Nat) : Prop where
  ht : P.underlying t = some (.slice e)
  info : ∃ i, P.info? e = some i ∧ i.zero = some z ∧ i.size = size ∧ i.bytes = bytes
  hzs : z.cells.size = size
  hsz : 0 < size

/-- append, onto a row of the call's own, from any row. -/
theorem app_law {P : Program} {w : World} {ops : Array Oper} {rest : List Oper} {o : Oper} {a : Act} {Q : Exit → Act → World → Prop} {t e : TypeId} {z : Value} {size bytes : Nat}
    (el : ElemOk P t e z size bytes) (hgd : o.guard = none) {s x : Operand} (ho : o.op = .call { callee := .builtin .append, args := #[s, x], argTypes := #[t, t] })
    {base n m : Nat} {v vx : Value} {xs news : List Value} (hown : w.ownsRow base e size v n xs)
    (hsrc : RowR w vx m news) (hs : a.eval s = v) (hx : a.eval x = vx) (hl : news.length = m * size) (h1 : ∀ u ∈ news, u.oneCell' = true)
    (hbytes : (n + m) * bytes ≤ 140737488355328) (h63 : n + m ≤ maxLen) (hbase : base ≤ w.heap.size)
    (h : ∀ v' w', w'.ownsRow base e size v' (n + m) (xs ++ news) → Mod (fun k => some k = v.ownBlock) w w' → (v' = .slice none 0 0 → v = .slice none 0 0) → (v'.ownBlock = v.ownBlock ∨ v'.ownBlock = some w.heap.size) → wpList P ops Q rest (a.put o.dst v') w') :
    wpList P ops Q (o :: rest) a w := by
  obtain ⟨ht, ⟨i, hi, hz, hsize, hby⟩, hzs, hsz⟩ := el
  obtain ⟨A, cap, rfl, hc1, hc2, hc3, hc4⟩ := hsrc
  cases A with
  | none =>
    obtain ⟨rfl, rfl⟩ := hc3 rfl
    have hm : m = 0 := by omega
    subst hm
    refine wpList_append_own_none hgd s x t ho base e i size ht hi v n xs hs hown hx (h v w ?_ (Mod.refl _ _) (fun h => h) (.inl rfl))
    simpa using hown
  | some ad =>
    obtain ⟨h5, h6, h7⟩ := hc4 ad rfl
    obtain ⟨b, off, sp⟩ := ad
    obtain rfl : sp = none := h5
    exact wpList_append_own_at w hgd s x t ho base e i z size bytes ht hi hz hsize hby hzs hsz v n xs hs hown ⟨b, off, none⟩ m cap news hx hl (fun j u hu => by rw [Addr.add_lit]; exact h7 j u hu) h1 h63 hbytes hbase
      (fun v' w' g1 g2 g3 g4 => h v' w' g1 (Mod.of_grownBy g2) (fun e => (g3.1 e).1) g4)

abbrev encB : UInt8 → Value := fun c => .int .u8 (c.toNat : Int)
abbrev encI : Int → Value := fun n => .int .i64 n
abbrev P0 (b : Nat) : Value := .pointer (some ⟨b, 0, none⟩)

end Go.Proofs.YtbloppbiojopaaaGreatDoor
