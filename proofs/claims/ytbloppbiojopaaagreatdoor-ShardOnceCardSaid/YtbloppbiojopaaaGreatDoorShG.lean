/- Package shard: places sorted. -/
import Derived.Test.YtbloppbiojopaaaGreatDoorCmpP
set_option maxRecDepth 100000
namespace Go.Proofs.YtbloppbiojopaaaGreatDoor
open Go Go.RowKit Go.Shelf Go.Lib Go.Sort

theorem mod_sortWorldK {α : Type} [Inhabited α] (enc : α → List Value) (k : Nat) (w : World) (blk off n : Nat) (dk : Array α) (os : Array Obj) : Mod (only blk) w (sortWorldK enc k w blk off n dk os) := by
  refine ⟨rfl, rfl, rfl, ?_, fun i hi hs => ?_⟩
  · simp [sortWorldK, putRowK, putRow, mapBlock, Sort.ahead]
  · unfold only at hs
    unfold sortWorldK
    rw [heap_grow_old _ _ (by simpa [putRowK, putRow, mapBlock, Sort.ahead] using hi)]
    simp only [putRowK, putRow, mapBlock, Sort.ahead, Array.getElem?_modify]
    rw [if_neg (fun e => hs e.symm)]

theorem flatMap_at {α : Type} (enc : α → List Value) (k : Nat) (hk : ∀ x, (enc x).length = k) : ∀ (l : List α) (j : Nat) (u : Value), (l.flatMap enc)[j]? = some u → ∃ x, l[j / k]? = some x ∧ (enc x)[j % k]? = some u
  | [], j, u, h => by simp at h
  | a :: l, j, u, h => by
    rw [List.flatMap_cons, List.getElem?_append] at h
    have k0 : 0 < k := by
      rcases Nat.eq_zero_or_pos k with e | e
      · subst e
        have : ((a :: l).flatMap enc) = [] := by
          rw [List.flatMap_eq_nil_iff]; intro x _; exact List.eq_nil_of_length_eq_zero (hk x)
        rw [List.flatMap_cons] at this
        rw [hk a] at h
        simp at h
        have h2 : l.flatMap enc = [] := (List.append_eq_nil_iff.1 this).2
        rw [h2] at h; simp at h
      · exact e
    rw [hk a] at h
    split at h
    · rename_i hlt
      exact ⟨a, by rw [Nat.div_eq_of_lt hlt]; rfl, by rw [Nat.mod_eq_of_lt hlt]; exact h⟩
    · rename_i hge
      obtain ⟨x, h1, h2⟩ := flatMap_at enc k hk l (j - k) u h
      obtain ⟨i, rfl⟩ : ∃ i, j = i + k := ⟨j - k, by omega⟩
      rw [Nat.add_sub_cancel] at h1 h2
      exact ⟨x, by rw [Nat.add_div_right _ k0]; exact h1, by rw [Nat.add_mod_right]; exact h2⟩

theorem flatK_at {α : Type} [Inhabited α] (enc : α → List Value) (k : Nat) (hk : ∀ x, (enc x).length = k) (d : Array α) (j : Nat) (u : Value) (h : (d.toList.flatMap enc)[j]? = some u) : j < d.size * k ∧ (flatK enc k d)[j]! = u := by
  obtain ⟨x, h1, h2⟩ := flatMap_at enc k hk _ _ _ h
  have hj : j / k < d.size := by
    have := (List.getElem?_eq_some_iff.1 h1).1
    simpa using this
  have hm : j % k < k := by have := (List.getElem?_eq_some_iff.1 h2).1; rwa [hk] at this
  have hjk : j < d.size * k := by
    rw [Nat.mul_comm]
    exact (Nat.div_lt_iff_lt_mul (by omega)).1 hj |> (fun h => by rwa [Nat.mul_comm] at h)
  refine ⟨hjk, ?_⟩
  rw [get_flatK enc k d j hjk]
  have e1 : d[j / k]! = x := by
    rw [getElem!_pos d (j / k) hj]
    have := (List.getElem?_eq_some_iff.1 h1).2
    simpa using this
  rw [e1]
  rw [List.getElem!_eq_getElem?_getD, h2]
  rfl

theorem flatK_list {α : Type} [Inhabited α] (enc : α → List Value) (k : Nat) (hk : ∀ x, (enc x).length = k) (d : Array α) (j : Nat) (hj : j < d.size * k) : (d.toList.flatMap enc)[j]? = some (flatK enc k d)[j]! := by
  have hl : (d.toList.flatMap enc).length = d.size * k := by
    rw [List.length_flatMap]
    have : (d.toList.map fun a => (enc a).length) = d.toList.map fun _ => k := List.map_congr_left fun x _ => hk x
    rw [this, List.map_const', List.sum_replicate_nat]; simp
  have hlt : j < (d.toList.flatMap enc).length := by omega
  have h1 := List.getElem?_eq_getElem hlt
  have h2 := (flatK_at enc k hk d j _ h1).2
  rw [h1, ← h2]

theorem rowOfHolds {α : Type} [Inhabited α] (enc : α → List Value) (k : Nat) (hk : ∀ x, (enc x).length = k) (w : World) (blk cap : Nat) (d : Array α) (h : HoldsK enc k w blk 0 d) (hb : blk < w.heap.size) (h1 : d.size ≤ cap) (h2 : cap ≤ maxLen) : RowR w (.slice (some ⟨blk, 0, none⟩) d.size cap) d.size (d.toList.flatMap enc) := by
  refine ⟨_, cap, rfl, h1, h2, (fun e => by cases e), fun a ha => ?_⟩
  cases ha
  refine ⟨rfl, hb, fun j u hu => ?_⟩
  obtain ⟨g1, g2⟩ := flatK_at enc k hk d j u hu
  have := (h j (by simpa using g1)).1
  rw [g2] at this
  exact this

theorem holdsOfOwns {α : Type} [Inhabited α] (enc : α → List Value) (k : Nat) (hk : ∀ x, (enc x).length = k) (w : World) (e : TypeId) (g : Nat) (d : Array α) (cur : Array Value) (hg : w.heap[g]? = some (.cells cur e (0, 0))) (ht : cur.toList.take (d.size * k) = d.toList.flatMap enc) : HoldsK enc k w g 0 d := by
  intro j hj
  rw [size_flatK] at hj
  refine ⟨?_, free_of_heap hg⟩
  have h1 := flatK_list enc k hk d j hj
  rw [← ht, List.getElem?_take, if_pos hj] at h1
  rw [Nat.zero_add, cell_of_heap hg]
  simpa using h1

/-- Places as they are told: in order. -/
def matSort (l : List (List UInt8 × Nat)) : List (List UInt8 × Nat) := l.mergeSort fun x y => !(ltOf matCmp) y x

theorem matSort_len (l : List (List UInt8 × Nat)) : (matSort l).length = l.length := List.length_mergeSort l

set_option maxHeartbeats 1000000 in
theorem sortMatch_any (v : Value) (B : Nat) (l : List (List UInt8 × Nat)) (w : World) (h : w.ownsRow B 61 2 v l.length (l.flatMap encM)) (hl : l.length < 4611686018427387904) :
    Calls Tryz.prog 34 #[v, .func (.func 35) #[] #[]] w fun e w' => e = .returned (.tuple #[]) ∧ SlK w' encM v (matSort l) ∧ Mod (fun k => some k = v.ownBlock) w w' := by
  rcases h.2 with ⟨rfl, h0⟩ | ⟨g, cap, cur, rfl, hb, hg, h1, h2, h3, h4⟩
  · obtain rfl := List.eq_nil_of_length_eq_zero h0
    refine (AnyF.slices_SortFunc_none lay_sortMatch none 0 _ w).mono ?_
    rintro e w' ⟨rfl, rfl⟩
    refine ⟨rfl, ?_, Mod.refl _ _⟩
    rw [show matSort [] = [] from by simp [matSort]]
    exact SlK.nil _ _
  · have hk : ∀ x, (encM x).length = 2 := fun x => rfl
    have hH : HoldsK encM 2 w g 0 l.toArray := holdsOfOwns encM 2 hk w 61 g l.toArray cur hg (by simpa using h4)
    have hgl := (Array.getElem?_eq_some_iff.1 hg).1
    have hc := AnyQ.slices_SortFunc_total lay_sortMatch 2 (fun w => by kernel_rfl) (fun w => by kernel_rfl) encM hk (by intro x u hu; simp at hu; rcases hu with rfl | rfl <;> rfl) matCmp mat_swo 35 #[] g 0 cap l.toArray w (enters_of Tryz.func35 (by kernel_rfl) rfl) (matCmpLays g 0 _ w) hH hgl (by simpa using hl)
      (fun x y e1 e2 => by
        rw [mat_lt, decide_eq_false_iff_not] at e1 e2
        rcases bytes_tri x.1 y.1 with q | q | q
        · exact absurd (.inl q) e1
        · have : x.2 = y.2 := by
            by_cases a : x.2 < y.2
            · exact absurd (.inr ⟨q, a⟩) e1
            · by_cases b : y.2 < x.2
              · exact absurd (.inr ⟨q.symm, b⟩) e2
              · omega
          exact Prod.ext q this
        · exact absurd (.inl q) e2)
    refine hc.mono ?_
    rintro e w' ⟨rfl, n, os, rfl⟩
    rw [show (l.toArray.toList.mergeSort fun x y => !(ltOf matCmp) y x) = matSort l from rfl]
    have hs : (matSort l).toArray.size = l.toArray.size := by simp [matSort_len]
    have hH2 := holdsK_sortWorldK encM 2 w g 0 n l.toArray (matSort l).toArray os hgl hH hs
    have hr := rowOfHolds encM 2 hk _ g cap (matSort l).toArray hH2 (lt_sortWorldK encM 2 w g 0 n _ os hgl) (by rw [hs]; simpa using h1) h2
    refine ⟨rfl, ?_, (mod_sortWorldK encM 2 w g 0 n _ os).mono fun i _ e => by unfold only at e; subst e; rfl⟩
    unfold SlK
    rw [matSort_len]
    simpa [matSort_len] using hr
end Go.Proofs.YtbloppbiojopaaaGreatDoor
