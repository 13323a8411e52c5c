/- Package shard: a shard with no segment; Get, put, delete. -/
import Derived.Test.YtbloppbiojopaaaGreatDoorDiskA
import Derived.Test.YtbloppbiojopaaaGreatDoorOpG
set_option maxRecDepth 100000
namespace Go.Proofs.YtbloppbiojopaaaGreatDoor
open Go Go.RowKit

/-- What a session is, as it lies. -/
def SesR (w : World) (F : Nat → Prop) (p : Int × List UInt8) (v : Value) : Prop :=
  ∃ s, v = .agg #[.int .i64 p.1, s] ∧ SlR w encB s p.2 ∧ p.2.length ≤ 200 ∧ ∀ k, s.ownBlock = some k → F k

theorem SesR.mod {w w' : World} {F S : Nat → Prop} {p : Int × List UInt8} {v : Value} (h : SesR w F p v) (hm : Mod S w w') (hs : ∀ k, F k → ¬ S k) : SesR w' F p v := by
  obtain ⟨s, rfl, h1, h2, h3⟩ := h
  exact ⟨s, rfl, RowR.mod h1 hm (fun k hk => hs k (h3 k hk)), h2, h3⟩

theorem SesR.mono {w : World} {F F' : Nat → Prop} {p : Int × List UInt8} {v : Value} (h : SesR w F p v) (hs : ∀ k, F k → F' k) : SesR w F' p v := by
  obtain ⟨s, rfl, h1, h2, h3⟩ := h
  exact ⟨s, rfl, h1, h2, fun k hk => hs k (h3 k hk)⟩

/-- Where a shard lies: itself, its table, the table's map, the sessions' map, the disk. -/
structure ShAt where
  s : Nat
  t : Nat
  mb : Nat
  sm : Nat
  d : Nat
  pre : ByteArray

/-- What a shard with no segment knows. -/
structure ShSt where
  tab : Tab
  sess : List (Int × (Int × List UInt8))
  applied : Int
  sure : Int
  next : Int

structure ShR (w : World) (F : Nat → Prop) (a : ShAt) (x : ShSt) : Prop where
  cells : w.heap[a.s]? = some (.cells #[.slice none 0 0, .int .i64 x.next, .int .i64 x.sure, P0 a.d, .string a.pre, P0 a.t, .map (some a.sm), .int .i64 x.applied] 70 (0, 0))
  tab : TabR w F a.t a.mb x.tab
  sess : ∃ raw, MapR w encI (fun v : Value => v) a.sm raw ∧ Ents (SesR w F) x.sess raw
  apart : a.s ≠ a.t ∧ a.s ≠ a.mb ∧ a.s ≠ a.sm ∧ a.t ≠ a.sm ∧ a.mb ≠ a.sm
  nf : ¬ F a.s ∧ ¬ F a.sm
  texts : ∀ k, F k → k < w.heap.size

theorem ShR.mod {w w' : World} {F S : Nat → Prop} {a : ShAt} {x : ShSt} (h : ShR w F a x) (hm : Mod S w w') (hs : ∀ k, k = a.s ∨ k = a.t ∨ k = a.mb ∨ k = a.sm ∨ F k → ¬ S k) : ShR w' F a x := by
  obtain ⟨h1, h2, ⟨raw, h3, h4⟩, h5, h6, h7⟩ := h
  exact ⟨hm.heap h1 (hs _ (.inl rfl)), h2.mod hm (hs _ (.inr (.inl rfl))) (hs _ (.inr (.inr (.inl rfl)))) (fun k hk => hs k (.inr (.inr (.inr (.inr hk))))),
    ⟨raw, h3.mod hm (hs _ (.inr (.inr (.inr (.inl rfl))))), h4.mono fun _ _ h => h.mod hm (fun k hk => hs k (.inr (.inr (.inr (.inr hk)))))⟩, h5, h6, fun k hk => Nat.lt_of_lt_of_le (h7 k hk) hm.size⟩

theorem ShR.mod0 {w w' : World} {F : Nat → Prop} {a : ShAt} {x : ShSt} (h : ShR w F a x) (hm : Mod no w w') : ShR w' F a x := h.mod hm fun _ _ => no_false _

theorem shGet_any (F : Nat → Prop) (a : ShAt) (x : ShSt) (k : ByteArray) (w : World) (h : ShR w F a x) :
    Calls Tryz.prog 9 #[P0 a.s, .string k] w fun e w' => ∃ v, e = .returned (.tuple #[v, .bool (tabGet k x.tab).2.1]) ∧ SlR w' encB v (tabGet k x.tab).1 ∧ (∀ b, v.ownBlock = some b → w.heap.size ≤ b) ∧ Mod no w w' := by
  have H := Lib.hid h
  have c0 := cell_of_heap (i := 0) h.cells
  have c5 := cell_of_heap (i := 5) h.cells
  simp only [List.getElem?_toArray, List.getElem?_cons_zero, List.getElem?_cons_succ] at c0 c5
  clear h
  obtain ⟨q, hq⟩ : ∃ q, q = tabGet k x.tab := ⟨_, rfl⟩
  have hq0 : q.2.2 = false → q = ([], false, false) := by
    rw [hq]; unfold tabGet; split
    · simp
    · simp
  rw [← hq]
  have HQ := Lib.hid hq
  have HQ0 := Lib.hid hq0
  clear hq hq0
  obtain ⟨q1, q2, q3⟩ := q
  simp only at HQ0
  cases q3
  · have h0 := HQ0.out rfl
    simp only [Prod.mk.injEq, and_true] at h0
    obtain ⟨rfl, rfl⟩ := h0
    go_enter Tryz.func9, Tryz.ntmps9
    go_wp2_with (go_at_call 30; refine (memGet_any F a.t a.mb x.tab k w H.out.tab).mono ?_; rintro e w' ⟨v, rfl, g1, g2, g3⟩; rw [← HQ.out] at *; have c0' := g3.cell c0 (no_false _); have G3 := Lib.hid g3; clear g1 g2 g3)
    refine wp_loop_rounds 1 ?_
    rw [rounds_succ]
    go_wp2_with fail
    go_ret2
    exact ⟨.slice none 0 0, rfl, SlR.nil _ _, (fun b hb => by cases hb), G3.out⟩
  · go_enter Tryz.func9, Tryz.ntmps9
    go_wp2_with (go_at_call 30; refine (memGet_any F a.t a.mb x.tab k w H.out.tab).mono ?_; rintro e w' ⟨v, rfl, g1, g2, g3⟩; rw [← HQ.out] at *; have c0' := g3.cell c0 (no_false _); have G1 := Lib.hid g1; have G2 := Lib.hid g2; have G3 := Lib.hid g3; clear g1 g2 g3)
    go_ret2
    exact ⟨_, rfl, G1.out, G2.out, G3.out⟩
end Go.Proofs.YtbloppbiojopaaaGreatDoor
