/- slices.Sorted(maps.Keys(m)) at this program's maps with string keys. -/
import Derived.Test.YtbloppbiojopaaaGreatDoorLay
import Derived.Test.YtbloppbiojopaaaGreatDoorMap
import Derived.Test.YtbloppbiojopaaaGreatDoorProg
set_option maxRecDepth 100000
namespace Go.Proofs.YtbloppbiojopaaaGreatDoor
open Go Go.RowKit Go.Maps Go.Sort Go.Shelf

theorem sortsStr (m : Nat) : AnyZ.SortsIn Tryz.prog lay_sortedStr_ren Fence.wide m :=
  ⟨fun blk off cap ss W hH hblk hsz => callsIn_wide.2 (AnyM.slices_Sort_string lay_sortStr blk off cap ss W hH hblk hsz),
   fun p cap W => callsIn_wide.2 (AnyM.slices_Sort_string_none lay_sortStr p cap W)⟩

/-- The keys' bytes. -/
def keyBytes {α : Type} (l : List (ByteArray × α)) : List (List UInt8) := l.map fun p => p.1.data.toList

abbrev oneR : Value → Option (DataW Unit × List MemPlace) := fun _ => some (.lit (.bool true), [])

theorem MapR.owns {α : Type} {P : Program} {k : TypeId} (hk : P.underlying k = some .string) {w : World} {el : α → Value} {b : Nat} {l : List (ByteArray × α)} (h : MapR w Value.string el b l) (hn : (l.map (·.1)).Nodup) (hs : l.length ≤ 1000000) (hb : ∀ p ∈ l, p.1.size ≤ 1000000) :
    ∃ D : DataW Unit, w.ownsMap P k oneR b l.length D ∧ (strKeys D).Perm (keyBytes l) ∧ Maps.size D = l.length := by
  obtain ⟨es, clock, g, r, g5, g6⟩ := h
  have hlen : es.toList.length = l.length := by have := congrArg List.length r; simpa using this
  have hkeys : es.toList.map (·.key) = l.map (fun p => Value.string p.1) := by
    have := congrArg (List.map Prod.fst) r
    simpa [List.map_map, Function.comp_def] using this
  have hrd : ∀ x ∈ es.toList, ∃ s : ByteArray, x.key = .string s ∧ s.size ≤ 1000000 := by
    intro x hx
    have : x.key ∈ es.toList.map (·.key) := List.mem_map_of_mem hx
    rw [hkeys] at this
    obtain ⟨p, hp, he⟩ := List.mem_map.1 this
    exact ⟨p.1, he.symm, hb p hp⟩
  have hko : ∀ s : ByteArray, s.size ≤ 1000000 → keyOf P k (.string s) = some (.string s.data.toList) := fun s hs => WideMaps.keyOf_string_mk hk (by unfold maxLen; omega)
  have hst : MapKept.Stamped es clock := by
    refine ⟨g5, g6, ?_⟩
    rw [hkeys]
    have : l.map (fun p => Value.string p.1) = (l.map (·.1)).map Value.string := by simp
    rw [this]
    exact List.Pairwise.map _ (fun a b hab e => hab (by injection e)) hn
  have hfit : WideElems.Fit P k oneR es clock := by
    refine ⟨?_, hst, fun x hx => ?_⟩
    · rw [← Array.length_toList, hlen]; unfold maxLen; omega
    · obtain ⟨s, h1, h2⟩ := hrd x hx
      exact ⟨_, by unfold WideElems.rd; rw [h1, hko s h2]; rfl⟩
  refine ⟨_, ⟨es, clock, g, hfit, by rw [← Array.length_toList, hlen]; exact Nat.le_refl _, rfl⟩, ?_, ?_⟩
  · show List.Perm (List.map _ _) _
    refine ((WideShapes.sorted_perm _).map _).trans (List.Perm.of_eq ?_)
    rw [List.map_map]
    have e1 : keyBytes l = (es.toList.map (·.key)).map (fun v => match v with | .string s => s.data.toList | _ => []) := by
      rw [hkeys]; simp [keyBytes]
    rw [e1, List.map_map]
    refine List.map_congr_left fun x hx => ?_
    obtain ⟨s, h1, h2⟩ := hrd x hx
    simp only [Function.comp_apply, WideElems.rg, WideElems.rd, h1, hko s h2]
    rfl
  · show List.length _ = _
    rw [length_sorted]
    simp [← hlen]

theorem keysF_any (mb : Option Nat) (W : World) : Calls Tryz.prog 157 #[.map mb] W fun e w' => e = .returned (.func (.func 223) #[] #[.pointer (some ⟨W.heap.size, 0, none⟩)]) ∧ w' = W.alloc (.cells #[.map mb] 104) :=
  (callsIn_wide (n := 5)).1 (AnyZ.keys_in lay_keysF Fence.wide 5 trivial rfl mb W)
theorem keysK_any (mb : Option Nat) (W : World) : Calls Tryz.prog 182 #[.map mb] W fun e w' => e = .returned (.func (.func 245) #[] #[.pointer (some ⟨W.heap.size, 0, none⟩)]) ∧ w' = W.alloc (.cells #[.map mb] 143) :=
  (callsIn_wide (n := 5)).1 (AnyZ.keys_in lay_keysK Fence.wide 5 trivial rfl mb W)

/-- What slices.Sorted hands back. -/
def SortedOf {α : Type} (l : List (ByteArray × α)) (w w' : World) (v : Value) : Prop :=
  w'.ownsRow w.heap.size 9 1 v l.length (((keyBytes l).mergeSort (fun x y => decide (x ≤ y))).map encStr) ∧ (v = .slice none 0 0 ↔ l = []) ∧ Mod no w w'

set_option maxHeartbeats 1000000 in
theorem sortedF_any {α : Type} (el : α → Value) (Bm b : Nat) (l : List (ByteArray × α)) (w : World) (h : MapR w Value.string el b l) (hB : w.cell? ⟨Bm, 0, none⟩ = some (.map (some b))) (hBl : Bm < w.heap.size) (hn : (l.map (·.1)).Nodup) (hs : l.length ≤ 1000000) (hb : ∀ p ∈ l, p.1.size ≤ 1000000) :
    Calls Tryz.prog 100 #[.func (.func 223) #[] #[.pointer (some ⟨Bm, 0, none⟩)]] w fun e w' => ∃ v, e = .returned v ∧ SortedOf l w w' v := by
  obtain ⟨D, hD, hD1, hD2⟩ := MapR.owns (P := Tryz.prog) (k := 9) Tryz.underlying9 h hn hs hb
  have hseq : SeqGives Fence.wide 2 Tryz.prog 223 #[.pointer (some ⟨Bm, 0, none⟩)] encStr (fun ss => ss.Perm (strKeys D)) (Maps.size D) w :=
    AnyZ.keys_gives (ρ := lay_keysF_ren) { lay_keysF with } Fence.wide _ trivial rfl (by omega) Bm b l.length D _ hBl hB hD
  have cS := AnyZ.sorted_in lay_sortedStr Fence.wide 5 trivial trivial trivial trivial rfl (by omega) (sortsStr _) (enters_of Tryz.func105 (by kernel_rfl) rfl) 223 #[.pointer (some ⟨Bm, 0, none⟩)] trivial (enters_of Tryz.func223 (by kernel_rfl) rfl) _ _ (by rw [hD2]; unfold maxLen; omega) (by rw [hD2]; omega) w hseq
  refine ((callsIn_wide (n := 5)).1 cS).mono ?_
  rintro e w' ⟨v, ss, rfl, h1, h2, h3, h4⟩
  have hp : ss.Perm (keyBytes l) := h1.trans hD1
  have hl : ss.length = l.length := by rw [hp.length_eq]; simp [keyBytes]
  rw [mergeSort_of_perm hp, hl] at h2
  refine ⟨v, rfl, h2, ?_, Mod.of_below_size h4⟩
  rw [h3, ← List.length_eq_zero_iff, hl, List.length_eq_zero_iff]

set_option maxHeartbeats 1000000 in
theorem sortedK_any {α : Type} (el : α → Value) (Bm b : Nat) (l : List (ByteArray × α)) (w : World) (h : MapR w Value.string el b l) (hB : w.cell? ⟨Bm, 0, none⟩ = some (.map (some b))) (hBl : Bm < w.heap.size) (hn : (l.map (·.1)).Nodup) (hs : l.length ≤ 1000000) (hb : ∀ p ∈ l, p.1.size ≤ 1000000) :
    Calls Tryz.prog 100 #[.func (.func 245) #[] #[.pointer (some ⟨Bm, 0, none⟩)]] w fun e w' => ∃ v, e = .returned v ∧ SortedOf l w w' v := by
  obtain ⟨D, hD, hD1, hD2⟩ := MapR.owns (P := Tryz.prog) (k := 9) Tryz.underlying9 h hn hs hb
  have hseq : SeqGives Fence.wide 2 Tryz.prog 245 #[.pointer (some ⟨Bm, 0, none⟩)] encStr (fun ss => ss.Perm (strKeys D)) (Maps.size D) w :=
    AnyZ.keys_gives (ρ := lay_keysK_ren) { lay_keysK with } Fence.wide _ trivial rfl (by omega) Bm b l.length D _ hBl hB hD
  have cS := AnyZ.sorted_in lay_sortedStr Fence.wide 5 trivial trivial trivial trivial rfl (by omega) (sortsStr _) (enters_of Tryz.func105 (by kernel_rfl) rfl) 245 #[.pointer (some ⟨Bm, 0, none⟩)] trivial (enters_of Tryz.func245 (by kernel_rfl) rfl) _ _ (by rw [hD2]; unfold maxLen; omega) (by rw [hD2]; omega) w hseq
  refine ((callsIn_wide (n := 5)).1 cS).mono ?_
  rintro e w' ⟨v, ss, rfl, h1, h2, h3, h4⟩
  have hp : ss.Perm (keyBytes l) := h1.trans hD1
  have hl : ss.length = l.length := by rw [hp.length_eq]; simp [keyBytes]
  rw [mergeSort_of_perm hp, hl] at h2
  refine ⟨v, rfl, h2, ?_, Mod.of_below_size h4⟩
  rw [h3, ← List.length_eq_zero_iff, hl, List.length_eq_zero_iff]
end Go.Proofs.YtbloppbiojopaaaGreatDoor
