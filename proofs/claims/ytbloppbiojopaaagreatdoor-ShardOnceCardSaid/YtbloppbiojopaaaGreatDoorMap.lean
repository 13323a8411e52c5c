/- Words on maps: a block that holds a map reads as a list of keys and values, in the order in which they came; the laws of look-up, store and length. -/
import Derived.Test.YtbloppbiojopaaaGreatDoorHeap
import Derived.Maps.RangeRun
import Derived.Maps.OwnOps
set_option maxRecDepth 100000
namespace Go.Proofs.YtbloppbiojopaaaGreatDoor
open Go Go.RowKit
open Go.ChangeMaps (setBlock heap_setBlock_same heap_setBlock_other)

/-- A type of keys: how a key is laid. -/
structure KeyEnc (P : Program) (kt : TypeId) {κ : Type} [DecidableEq κ] (enc : κ → Value) : Prop where
  find : ∃ d, P.underlying kt = some d ∧ (∀ a b, Instr.sameNow d (enc a) (enc b) = some (decide (a = b))) ∧ ∀ k, MapKept.IsKey d (enc k)

theorem KeyEnc.check {P : Program} {kt : TypeId} {κ : Type} [DecidableEq κ] {enc : κ → Value} (K : KeyEnc P kt enc) (b : Bool) (k : κ) (w : World) : (Instr.checkKey b 10000 kt (enc k)).run P w = .ok () w := by
  obtain ⟨⟨d, h1, h2, h3⟩⟩ := K
  exact MapKept.run_checkKey h1 (h3 k) b 9999

theorem KeyEnc.stays {P : Program} {kt : TypeId} {κ : Type} [DecidableEq κ] {enc : κ → Value} (K : KeyEnc P kt enc) (k : κ) (w : World) : (Instr.keyThatStays (enc k) (enc k)).run P w = .ok (enc k) w := by
  obtain ⟨⟨d, h1, h2, h3⟩⟩ := K
  exact MapKept.run_keyThatStays (h3 k)

theorem keyString {P : Program} {kt : TypeId} (h : P.underlying kt = some .string) : KeyEnc P kt Value.string :=
  ⟨⟨.string, h, fun a b => by
    have : (a == b) = decide (a = b) := by rw [Bool.eq_iff_iff]; simp [MapKept.bytes_beq]
    simp [Instr.sameNow, this], fun k => by simp [MapKept.IsKey]⟩⟩

theorem keyInt {P : Program} {kt : TypeId} (h : P.underlying kt = some (.int .i64)) : KeyEnc P kt (fun n : Int => Value.int .i64 n) :=
  ⟨⟨.int .i64, h, fun a b => by
    have : (a == b) = decide (a = b) := by rw [Bool.eq_iff_iff]; simp
    simp [Instr.sameNow, this], fun k => by simp [MapKept.IsKey]⟩⟩

variable {κ : Type} [DecidableEq κ] {α : Type}

def mget (k : κ) : List (κ × α) → Option α
  | [] => none
  | (a, v) :: l => if k = a then some v else mget k l
def mput (k : κ) (v : α) : List (κ × α) → List (κ × α)
  | [] => [(k, v)]
  | (a, u) :: l => if k = a then (a, v) :: l else (a, u) :: mput k v l

theorem mget_mput (k k' : κ) (v : α) (l : List (κ × α)) : mget k' (mput k v l) = if k' = k then some v else mget k' l := by
  induction l with
  | nil => simp [mput, mget]
  | cons p l ih =>
    obtain ⟨a, u⟩ := p
    unfold mput
    by_cases h : k = a
    · subst h
      simp only [if_true, mget]
      split <;> rfl
    · simp only [h, if_false, mget, ih]
      by_cases h' : k' = a
      · subst h'
        have : ¬ k' = k := fun e => h e.symm
        simp [this]
      · simp [h']

theorem mput_len (k : κ) (v : α) (l : List (κ × α)) : (mput k v l).length = l.length + (if (mget k l).isSome then 0 else 1) := by
  induction l with
  | nil => rfl
  | cons p l ih =>
    obtain ⟨a, u⟩ := p
    unfold mput mget
    split
    · simp
    · simp [ih]; omega

/-- Entries that read as a list. -/
def Reads (enc : κ → Value) (el : α → Value) (es : List MapEntry) (l : List (κ × α)) : Prop :=
  es.map (fun e => (e.key, e.val)) = l.map (fun p => (enc p.1, el p.2))

/-- Block b is a map that reads as l. -/
def MapR (w : World) (enc : κ → Value) (el : α → Value) (b : Nat) (l : List (κ × α)) : Prop :=
  ∃ es clock, w.heap[b]? = some (.map es clock) ∧ Reads enc el es.toList l ∧ (∀ e ∈ es.toList, e.born < clock) ∧ (es.toList.map (·.born)).Nodup

omit [DecidableEq κ] in
theorem MapR.mod {enc : κ → Value} {el : α → Value} {w w' : World} {S : Nat → Prop} {b : Nat} {l : List (κ × α)} (h : MapR w enc el b l) (hm : Mod S w w') (hs : ¬ S b) : MapR w' enc el b l := by
  obtain ⟨es, clock, g, r⟩ := h
  exact ⟨es, clock, hm.heap g hs, r⟩

omit [DecidableEq κ] in
theorem MapR.made (enc : κ → Value) (el : α → Value) (w : World) (b : Nat) (hb : b = w.heap.size) : MapR (w.alloc (.map #[] 0)) enc el b [] := by
  subst hb
  exact ⟨#[], 0, heap_alloc_new w _, rfl, by simp, by simp⟩

omit [DecidableEq κ] in
theorem MapR.lt {enc : κ → Value} {el : α → Value} {w : World} {b : Nat} {l : List (κ × α)} (h : MapR w enc el b l) : b < w.heap.size := by
  obtain ⟨es, clock, g, r⟩ := h
  exact (Array.getElem?_eq_some_iff.1 g).1

theorem findNow_reads {enc : κ → Value} {el : α → Value} {d : TypeDesc} (hd : ∀ a b, Instr.sameNow d (enc a) (enc b) = some (decide (a = b))) (k : κ) :
    ∀ (es : List MapEntry) (l : List (κ × α)) (i : Nat), Reads enc el es l →
      (mget k l = none ∧ Instr.findNow d (enc k) es i = some none ∧ ∀ v, mput k v l = l ++ [(k, v)]) ∨
      ∃ j v, ∃ h : j < es.length, mget k l = some v ∧ Instr.findNow d (enc k) es i = some (some (i + j, el v)) ∧ es[j].key = enc k ∧
        ∀ u, Reads enc el (es.modify j fun e => { e with key := enc k, val := el u }) (mput k u l)
  | [], l, i, h => by
    cases l with
    | nil => exact .inl ⟨rfl, rfl, fun v => rfl⟩
    | cons p l => cases h
  | e :: es, l, i, h => by
    cases l with
    | nil => cases h
    | cons p l =>
      obtain ⟨a, x⟩ := p
      unfold Reads at h
      simp only [List.map_cons, List.cons.injEq, Prod.mk.injEq] at h
      obtain ⟨⟨h1, h2⟩, h3⟩ := h
      unfold Instr.findNow mget mput
      rw [h1, hd]
      by_cases hk : k = a
      · subst hk
        right
        refine ⟨0, x, by simp, by simp, by simp [h2], by simpa using h1, fun u => ?_⟩
        simp [Reads, h3]
      · simp only [hk, decide_false, if_false]
        rcases findNow_reads hd k es l (i + 1) h3 with ⟨g1, g2, g3⟩ | ⟨j, v, hj, g1, g2, g3, g4⟩
        · exact .inl ⟨g1, g2, fun v => by rw [g3]; rfl⟩
        · refine .inr ⟨j + 1, v, by simp; omega, g1, by rw [g2]; simp; omega, by simpa using g3, fun u => ?_⟩
          have := g4 u
          simp only [Reads, List.modify_succ_cons, List.map_cons] at this ⊢
          rw [this, h1, h2]

theorem run_findKey {P : Program} {kt : TypeId} {enc : κ → Value} {el : α → Value} (K : KeyEnc P kt enc) (k : κ) (es : List MapEntry) (l : List (κ × α)) (h : Reads enc el es l) (w : World) :
    (mget k l = none ∧ (Instr.findKey kt (enc k) es).run P w = .ok none w ∧ ∀ v, mput k v l = l ++ [(k, v)]) ∨
      ∃ j v, ∃ h : j < es.length, mget k l = some v ∧ (Instr.findKey kt (enc k) es).run P w = .ok (some (j, el v)) w ∧ es[j].key = enc k ∧
        ∀ u, Reads enc el (es.modify j fun e => { e with key := enc k, val := el u }) (mput k u l) := by
  obtain ⟨⟨d, hd, hs, -⟩⟩ := K
  rcases findNow_reads hs k es l 0 h with ⟨g1, g2, g3⟩ | ⟨j, v, hj, g1, g2, g3, g4⟩
  · exact .inl ⟨g1, MapKept.run_findKey hd g2, g3⟩
  · exact .inr ⟨j, v, hj, g1, MapKept.run_findKey hd (by simpa using g2), g3, g4⟩

theorem run_lookup {P : Program} {mt kt e : TypeId} {enc : κ → Value} {el : α → Value} (K : KeyEnc P kt enc) (hm : P.underlying mt = some (.map kt e)) {z : Value} (hz : ∀ w, (zeroValue e).run P w = .ok z w) {w : World} {b : Nat} {l : List (κ × α)} (h : MapR w enc el b l) (k : κ) (c : Bool) :
    (Instr.lookup mt (.map (some b)) (enc k) c).run P w = .ok (if c then .tuple #[((mget k l).map el).getD z, .bool (mget k l).isSome] else ((mget k l).map el).getD z) w := by
  obtain ⟨es, clock, g, r, -, -⟩ := h
  rcases run_findKey K k es.toList l r w with ⟨g1, g2, g3⟩ | ⟨j, v, hj, g1, g2, g3, g4⟩
  · cases c <;> simp [Instr.lookup, run_underlying hm, MapKept.run_getObj_map g, K.check, g2, g1, hz, Result.andThen]
  · cases c <;> simp [Instr.lookup, run_underlying hm, MapKept.run_getObj_map g, K.check, g2, g1, Result.andThen]

theorem run_lookup_nil {P : Program} {mt kt e : TypeId} {enc : κ → Value} (K : KeyEnc P kt enc) (hm : P.underlying mt = some (.map kt e)) {z : Value} (hz : ∀ w, (zeroValue e).run P w = .ok z w) (w : World) (k : κ) (c : Bool) :
    (Instr.lookup mt (.map none) (enc k) c).run P w = .ok (if c then .tuple #[z, .bool false] else z) w := by
  rcases run_findKey (α := Value) (el := fun x => x) K k [] [] rfl w with ⟨g1, g2, g3⟩ | ⟨j, v, hj, g1, g2, g3, g4⟩
  · cases c <;> simp [Instr.lookup, run_underlying hm, K.check, g2, hz, Result.andThen]
  · simp at hj

theorem run_mapUpdate {P : Program} {mt kt e : TypeId} {enc : κ → Value} {el : α → Value} (K : KeyEnc P kt enc) (hm : P.underlying mt = some (.map kt e)) {w : World} {b : Nat} {l : List (κ × α)} (h : MapR w enc el b l) (k : κ) (v : α) :
    ∃ w', (Instr.mapUpdate mt (.map (some b)) (enc k) (el v)).run P w = .ok () w' ∧ MapR w' enc el b (mput k v l) ∧ Mod (only b) w w' := by
  obtain ⟨es, clock, g, r, g5, g6⟩ := h
  have hM : ∀ o, Mod (only b) w { w with heap := w.heap.setIfInBounds b o } := fun o => ⟨rfl, rfl, rfl, by simp, fun i _ hi => (MapKept.heap_set g).2 i hi⟩
  rcases run_findKey K k es.toList l r w with ⟨g1, g2, g3⟩ | ⟨j, v', hj, g1, g2, g3, g4⟩
  · refine ⟨_, by simp [Instr.mapUpdate, run_underlying hm, MapKept.run_getObj_map g, K.check, g2, MapKept.run_setObj_map _ g, Result.andThen]; rfl, ⟨_, _, (MapKept.heap_set g).1, ?_, ?_, ?_⟩, hM _⟩
    · rw [g3]; simp only [Reads, Array.toList_push, List.map_append, List.map_cons, List.map_nil]; rw [r]
    · intro x hx
      simp only [Array.toList_push, List.mem_append, List.mem_singleton] at hx
      rcases hx with hx | rfl
      · have := g5 x hx; omega
      · simp
    · simp only [Array.toList_push, List.map_append, List.map_cons, List.map_nil]
      rw [List.nodup_append]
      refine ⟨g6, by simp, fun a ha c hc => ?_⟩
      simp only [List.mem_singleton] at hc
      obtain ⟨x, hx, rfl⟩ := List.mem_map.1 ha
      have := g5 x hx
      omega
  · have hj' : j < es.size := by simpa using hj
    have e1 : (((es[j]?).map (·.key)).getD (enc k)) = enc k := by
      rw [Array.getElem?_eq_getElem hj']
      simpa using g3
    have e2 := K.stays (P := P) k w
    refine ⟨_, by simp [Instr.mapUpdate, run_underlying hm, MapKept.run_getObj_map g, K.check, g2, e1, e2, MapKept.run_setObj_map _ g, Result.andThen]; rfl, ⟨_, _, (MapKept.heap_set g).1, ?_, ?_, ?_⟩, hM _⟩
    · simpa using g4 v
    · intro x hx
      simp only [Array.toList_modify] at hx
      obtain ⟨i, hi, rfl⟩ := List.getElem_of_mem hx
      rw [List.getElem_modify]
      simp only [List.length_modify] at hi
      have := g5 _ (List.getElem_mem hi)
      split <;> exact this
    · simp only [Array.toList_modify]
      have : (es.toList.modify j fun e => { e with key := enc k, val := el v }).map (·.born) = es.toList.map (·.born) := by
        apply List.ext_getElem
        · simp
        · intro i h1 h2
          simp only [List.getElem_map, List.getElem_modify]
          split <;> rfl
      rw [this]; exact g6

theorem wp_lookup {P : Program} {w : World} {ops : Array Oper} {rest : List Oper} {o : Oper} {a : Act} {Q : Exit → Act → World → Prop} {mt kt e : TypeId} {enc : κ → Value} {el : α → Value} {z : Value} {b : Nat} {l : List (κ × α)} {m x : Operand} {c : Bool}
    (K : KeyEnc P kt enc) (hm : P.underlying mt = some (.map kt e)) (hz : ∀ w, (zeroValue e).run P w = .ok z w) (hM : MapR w enc el b l) (k : κ) (hg : o.guard = none) (hop : o.op = Op.lookup mt m x c) (hem : a.eval m = .map (some b)) (hex : a.eval x = enc k)
    (h : wpList P ops Q rest (a.put o.dst (if c then .tuple #[((mget k l).map el).getD z, .bool (mget k l).isSome] else ((mget k l).map el).getD z)) w) : wpList P ops Q (o :: rest) a w := by
  refine wpList_plain hg fun K' hK' => ?_
  unfold Oper.wp
  simp [execOp, hop, hem, hex, run_lookup K hm hz hM, Result.andThen]
  exact hK' _ _ h

theorem wp_mapUpdate {P : Program} {w : World} {ops : Array Oper} {rest : List Oper} {o : Oper} {a : Act} {Q : Exit → Act → World → Prop} {mt kt e : TypeId} {enc : κ → Value} {el : α → Value} {b : Nat} {l : List (κ × α)} {m x v : Operand}
    (K : KeyEnc P kt enc) (hm : P.underlying mt = some (.map kt e)) (hM : MapR w enc el b l) (k : κ) (u : α) (hg : o.guard = none) (hop : o.op = Op.mapUpdate mt m x v) (hem : a.eval m = .map (some b)) (hex : a.eval x = enc k) (hev : a.eval v = el u)
    (h : ∀ w', MapR w' enc el b (mput k u l) → Mod (only b) w w' → wpList P ops Q rest (a.put o.dst undef) w') : wpList P ops Q (o :: rest) a w := by
  refine wpList_plain hg fun K' hK' => ?_
  obtain ⟨w', h1, h2, h3⟩ := run_mapUpdate K hm hM k u
  unfold Oper.wp
  simp [execOp, hop, hem, hex, hev, h1, Result.andThen]
  exact hK' _ _ (h w' h2 h3)

theorem run_len_map {κ₁ α₁ : Type} {P : Program} {mt kt e : TypeId} {enc : κ₁ → Value} {el : α₁ → Value} (hm : P.underlying mt = some (.map kt e)) {w : World} {b : Nat} {l : List (κ₁ × α₁)} (h : MapR w enc el b l) (ty : TypeId) :
    (Builtin.len_ #[mt] ty #[.map (some b)]).run P w = .ok (.int .i64 l.length) w := by
  obtain ⟨es, clock, g, r, -, -⟩ := h
  have := congrArg List.length r
  simp at this
  simp [Builtin.len_, run_underlying hm, MapKept.run_getObj_map g, Result.andThen, this, goInt]

end Go.Proofs.YtbloppbiojopaaaGreatDoor
