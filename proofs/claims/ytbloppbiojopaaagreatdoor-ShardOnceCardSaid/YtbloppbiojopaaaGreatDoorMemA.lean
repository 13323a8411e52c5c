/- Package mem: the table. -/
import Derived.Test.YtbloppbiojopaaaGreatDoorMap
import Derived.Test.YtbloppbiojopaaaGreatDoorRef1
set_option maxRecDepth 100000
namespace Go.Proofs.YtbloppbiojopaaaGreatDoor
open Go Go.RowKit

/-- What is known of a key, as it lies. -/
def KnR (w : World) (F : Nat → Prop) (p : List UInt8 × Bool) (v : Value) : Prop :=
  ∃ s, v = .agg #[s, .bool p.2] ∧ SlR w encB s p.1 ∧ p.1.length ≤ 4096 ∧ ∀ k, s.ownBlock = some k → F k

/-- Two lists of entries: the same keys, what they hold related. -/
inductive Ents {κ α β : Type} (R : α → β → Prop) : List (κ × α) → List (κ × β) → Prop
  | nil : Ents R [] []
  | cons {k a b l m} : R a b → Ents R l m → Ents R ((k, a) :: l) ((k, b) :: m)

section
variable {κ α β : Type} {R R' : α → β → Prop}

theorem Ents.mono {l : List (κ × α)} {m : List (κ × β)} (h : Ents R l m) (hR : ∀ a b, R a b → R' a b) : Ents R' l m := by
  induction h with
  | nil => exact .nil
  | cons h _ ih => exact .cons (hR _ _ h) ih

theorem Ents.length {l : List (κ × α)} {m : List (κ × β)} (h : Ents R l m) : m.length = l.length := by
  induction h with
  | nil => rfl
  | cons _ _ ih => simp [ih]

variable [DecidableEq κ]

theorem Ents.get {l : List (κ × α)} {m : List (κ × β)} (h : Ents R l m) (k : κ) : (mget k l = none ∧ mget k m = none) ∨ ∃ a b, mget k l = some a ∧ mget k m = some b ∧ R a b := by
  induction h with
  | nil => exact .inl ⟨rfl, rfl⟩
  | @cons k' a b l m h _ ih =>
    unfold mget
    split
    · exact .inr ⟨a, b, rfl, rfl, h⟩
    · exact ih

theorem Ents.put {l : List (κ × α)} {m : List (κ × β)} (h : Ents R l m) (k : κ) {a : α} {b : β} (hab : R a b) : Ents R (mput k a l) (mput k b m) := by
  induction h with
  | nil => exact .cons hab .nil
  | @cons k' a' b' l m h h2 ih =>
    unfold mput
    split
    · exact .cons hab h2
    · exact .cons h ih
end

theorem KnR.mod {w w' : World} {F S : Nat → Prop} {p : List UInt8 × Bool} {v : Value} (h : KnR w F p v) (hm : Mod S w w') (hs : ∀ k, F k → ¬ S k) : KnR w' F p v := by
  obtain ⟨s, rfl, h1, h2, h3⟩ := h
  exact ⟨s, rfl, RowR.mod h1 hm (fun k hk => hs k (h3 k hk)), h2, h3⟩

theorem KnR.mono {w : World} {F F' : Nat → Prop} {p : List UInt8 × Bool} {v : Value} (h : KnR w F p v) (hs : ∀ k, F k → F' k) : KnR w F' p v := by
  obtain ⟨s, rfl, h1, h2, h3⟩ := h
  exact ⟨s, rfl, h1, h2, fun k hk => hs k (h3 k hk)⟩

abbrev Tab := List (ByteArray × (List UInt8 × Bool))

/-- A table at block t, its map at block mb; its texts lie in blocks of F, which holds neither t nor mb. -/
def TabR (w : World) (F : Nat → Prop) (t mb : Nat) (l : Tab) : Prop :=
  w.heap[t]? = some (.cells #[.map (some mb)] 145 (0, 0)) ∧ t ≠ mb ∧ ¬ F t ∧ ¬ F mb ∧ ∃ raw, MapR w Value.string (fun v => v) mb raw ∧ Ents (KnR w F) l raw

theorem TabR.mod {w w' : World} {F S : Nat → Prop} {t mb : Nat} {l : Tab} (h : TabR w F t mb l) (hm : Mod S w w') (h1 : ¬ S t) (h2 : ¬ S mb) (hs : ∀ k, F k → ¬ S k) : TabR w' F t mb l := by
  obtain ⟨g1, g2, g3, g4, raw, g5, g6⟩ := h
  exact ⟨hm.heap g1 h1, g2, g3, g4, raw, g5.mod hm h2, g6.mono fun _ _ h => h.mod hm hs⟩

theorem TabR.lt {w : World} {F : Nat → Prop} {t mb : Nat} {l : Tab} (h : TabR w F t mb l) : t < w.heap.size ∧ mb < w.heap.size := by
  obtain ⟨g1, g2, g3, g4, raw, g5, g6⟩ := h
  exact ⟨(Array.getElem?_eq_some_iff.1 g1).1, g5.lt⟩

theorem keyS : KeyEnc Tryz.prog 9 Value.string := keyString Tryz.underlying9

theorem zeroKnown (w : World) : (zeroValue 147).run Tryz.prog w = .ok (.agg #[.slice none 0 0, .bool false]) w := by
  simp [zeroValue, typeInfo]
  rfl

theorem memMay_any (t : Nat) (k : ByteArray) (w : World) (h1 : 1 ≤ k.size) (h2 : k.size ≤ 64) :
    Calls Tryz.prog 128 #[P0 t, .string k] w fun e w' => e = .returned (.bool true) ∧ w' = w := by
  have h3 : ((k.size : Int) ≥ 1) := by omega
  have h4 : ((k.size : Int) ≤ 64) := by omega
  go_enter Tryz.func128, Tryz.ntmps128
  go_wp2
  go_ret
  exact ⟨rfl, rfl⟩

theorem memLen_any (F : Nat → Prop) (t mb : Nat) (l : Tab) (w : World) (h : TabR w F t mb l) :
    Calls Tryz.prog 29 #[P0 t] w fun e w' => e = .returned (.int .i64 l.length) ∧ w' = w := by
  obtain ⟨g1, g2, g3, g4, raw, g5, g6⟩ := h
  have hl := run_len_map (P := Tryz.prog) Tryz.underlying143 g5
  rw [g6.length] at hl
  have c0 : w.cell? ⟨t, 0, none⟩ = some (.map (some mb)) := cell_of_heap g1
  have HL := Lib.hid hl
  clear g1 g2 g3 g4 g5 g6 hl
  go_enter Tryz.func29, Tryz.ntmps29
  have hl := HL.out
  go_wp2
  go_ret
  exact ⟨rfl, rfl⟩

end Go.Proofs.YtbloppbiojopaaaGreatDoor
