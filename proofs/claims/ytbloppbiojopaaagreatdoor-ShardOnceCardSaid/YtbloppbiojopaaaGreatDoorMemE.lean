/- Package mem: keys. -/
import Derived.Test.YtbloppbiojopaaaGreatDoorMemD
set_option maxRecDepth 100000
namespace Go.Proofs.YtbloppbiojopaaaGreatDoor
open Go Go.RowKit Go.Shelf Go.Lib Go.Sort

theorem ents_keys {κ α β : Type} {R : α → β → Prop} {l : List (κ × α)} {m : List (κ × β)} (h : Ents R l m) : m.map (·.1) = l.map (·.1) := by
  induction h with
  | nil => rfl
  | cons _ _ ih => simp [ih]

theorem heap_two' (w : World) (x y : Obj) : ((w.alloc x).alloc y).heap[w.heap.size]? = some x := (Below.heap_alloc _ _ _ (by simp)).trans (heap_alloc_new w _)
theorem heap_two2 (w : World) (x y : Obj) : ((w.alloc x).alloc y).heap[w.heap.size + 1]? = some y := (congrArg (fun k => ((w.alloc x).alloc y).heap[k]?) (by simp)).trans (heap_alloc_new _ _)

theorem zeroStr (w : World) : (zeroValue 9).run Tryz.prog w = .ok (encStr []) w := by
  simp [zeroValue, typeInfo]
  rfl

theorem deleteStr_nil (fv : Value) (w : World) : Calls Tryz.prog 181 #[.slice none 0 0, fv] w fun e w' => e = .returned (.slice none 0 0) ∧ w' = w := by
  go_enter Tryz.func181, Tryz.ntmps181
  go_wp2_with (go_at_call 244; refine (AnyE.slices_IndexFunc_empty lay_indexFuncStr none 0 fv w).mono ?_; rintro e W ⟨rfl, hW⟩; rw [hW]; clear hW W)
  go_ret
  exact ⟨rfl, rfl⟩

/-- The keys that have a text, or are gone, in their order. -/
def tabKeys (l : Tab) (has : Bool) : List (List UInt8) := ((keyBytes l).mergeSort (fun x y => decide (x ≤ y))).filter fun x => !keyNot l has x

theorem tabKeys_nil (has : Bool) : tabKeys [] has = [] := by simp [tabKeys, keyBytes]

set_option maxHeartbeats 1000000 in
theorem memKeys_any (F : Nat → Prop) (t mb : Nat) (l : Tab) (has : Bool) (w : World) (h : TabR w F t mb l) (hn : (l.map (·.1)).Nodup) (hs : l.length ≤ 1000000) (hb : ∀ p ∈ l, p.1.size ≤ 1000000) :
    Calls Tryz.prog 114 #[P0 t, .bool has] w fun e w' => ∃ v, e = .returned v ∧ SlR w' encStr v (tabKeys l has) ∧ Mod no w w' := by
  have H := Lib.hid h
  have HN := Lib.hid hn
  have HB := Lib.hid hb
  obtain ⟨rw0, hrw⟩ : ∃ raw, raw = l := ⟨_, rfl⟩
  have hlt := h.lt
  have c0 := cell_of_heap (i := 0) h.1
  simp only [List.getElem?_toArray, List.getElem?_cons_zero] at c0
  clear h hn hb hrw rw0
  go_enter Tryz.func114, Tryz.ntmps114
  go_wp2_with fail
  obtain ⟨w2, hw2⟩ : ∃ w2, w2 = (w.alloc (.cells #[P0 t] 67)).alloc (.cells #[.bool has] 4) := ⟨_, rfl⟩
  rw [← hw2]
  have hm2 : Mod no w w2 := by rw [hw2]; exact ((Mod.refl no w).alloc _).alloc _
  have b1 : w2.cell? ⟨w.heap.size, 0, none⟩ = some (P0 t) := by rw [hw2]; exact cell_of_heap (heap_two' w _ _)
  have b2 : w2.cell? ⟨w.heap.size + 1, 0, none⟩ = some (.bool has) := by
    rw [hw2]; exact cell_of_heap (heap_two2 w _ _)
  have hs2 : w2.heap.size = w.heap.size + 2 := by rw [hw2]; simp
  have HM2 := Lib.hid hm2
  have HS2 := Lib.hid hs2
  clear hw2 hm2 hs2
  refine (keysK_any (some mb) w2).mono ?_
  rintro e w3 ⟨rfl, hw3⟩
  have hm3 : Mod no w2 w3 := by rw [hw3]; exact (Mod.refl no w2).alloc _
  have hc3 : w3.cell? ⟨w2.heap.size, 0, none⟩ = some (.map (some mb)) := by rw [hw3]; exact cell_of_heap (heap_alloc_new w2 _)
  have hl3 : w2.heap.size < w3.heap.size := by rw [hw3]; simp
  have HT3 := Lib.hid (H.out.mod (HM2.out.trans hm3) (no_false _) (no_false _) (fun _ _ => no_false _))
  have d1 := hm3.cell b1 (no_false _)
  have d2 := hm3.cell b2 (no_false _)
  have HC3 := Lib.hid hc3
  have HM3 := Lib.hid (HM2.out.trans hm3)
  clear hw3 hm3 hc3 b1 b2 HM2 c0
  go_wp2_with fail
  obtain ⟨raw, hraw, hents⟩ := HT3.out.2.2.2.2
  have hkeys : raw.map (·.1) = l.map (·.1) := by
    exact ents_keys hents
  have hrl : raw.length = l.length := hents.length
  have hkb : keyBytes raw = keyBytes l := by
    have := congrArg (List.map fun k : ByteArray => k.data.toList) hkeys
    simpa [keyBytes, List.map_map, Function.comp_def] using this
  refine (sortedK_any (fun v : Value => v) w2.heap.size mb raw w3 hraw HC3.out hl3 (by rw [hkeys]; exact HN.out) (by omega) (fun p hp => by
    have : p.1 ∈ raw.map (·.1) := List.mem_map_of_mem hp
    rw [hkeys] at this
    obtain ⟨p', hp', e⟩ := List.mem_map.1 this
    rw [← e]; exact HB.out p' hp')).mono ?_
  rintro e w4 ⟨v, rfl, hv1, hv2, hm4⟩
  rw [hkb, hrl] at hv1
  have e1 := hm4.cell d1 (no_false _)
  have e2 := hm4.cell d2 (no_false _)
  have HT4 := Lib.hid (HT3.out.mod hm4 (no_false _) (no_false _) (fun _ _ => no_false _))
  have HM4 := Lib.hid (HM3.out.trans hm4)
  have h34 := hm4.size
  have HV := Lib.hid hv1
  have HV2 := Lib.hid hv2
  clear hraw hents hkeys hkb hv1 hv2 hm4 d1 d2 HT3 HC3
  have hs3 := HS2.out
  rcases HV.out.2 with ⟨hvn, hl0⟩ | ⟨g, cap, cur, hvs, hgb, hg, hc1, hc2, hc3, hc4⟩
  · subst hvn
    have hl : l = [] := List.eq_nil_of_length_eq_zero hl0
    clear hl0
    go_wp2_with fail
    refine (deleteStr_nil _ w4).mono ?_
    rintro e W ⟨rfl, hW⟩
    rw [hW]
    clear hW W
    go_wp2_with fail
    go_ret
    refine ⟨_, rfl, ?_, HM4.out⟩
    rw [hl, tabKeys_nil]
    exact SlR.nil _ _
  · subst hvs
    obtain ⟨ks, hks⟩ : ∃ ks, ks = (keyBytes l).mergeSort (fun x y => decide (x ≤ y)) := ⟨_, rfl⟩
    have hkl : ks.length = l.length := by rw [hks, List.length_mergeSort]; simp [keyBytes]
    have hown := HV.out
    rw [← hks] at hown
    have hHolds : Holds encStr w4 g 0 ks.toArray := by
      intro j hj
      have hj' : j < ks.length := by simpa using hj
      have h1 := hown.cells (g := g) rfl j (encStr ks[j]) (by simp [hj'])
      refine ⟨?_, ?_⟩
      · rw [Addr.add_lit, Nat.zero_add] at h1
        simp only [Nat.zero_add]
        rw [h1]; simp [hj']
      · exact free_of_heap hg
    have hgl : g < w4.heap.size := (Array.getElem?_eq_some_iff.1 hg).1
    have hcon := AnyE.slices_DeleteFunc lay_deleteStr encStr (fun _ => rfl) (keyNot l has) 183 #[P0 w.heap.size, P0 (w.heap.size + 1)] (enters_of Tryz.func183 (by kernel_rfl) rfl) [] zeroStr g 0 cap ks.toArray w4
      (fun W x hb => keysC_gives HT4.out has _ _ e1 e2 no ⟨no_false _, no_false _, no_false _, no_false _⟩ W (Mod.of_below_size hb) x)
      (fun n os dk x _ => keysC_gives HT4.out has _ _ e1 e2 (only g) ⟨by unfold only; omega, by unfold only; omega, by unfold only; omega, by unfold only; omega⟩ _ (mod_sortWorld encStr w4 g 0 n dk os) x)
      hHolds (by simp; omega) (by simp; omega)
    simp only [List.size_toArray, hkl] at hcon
    change Calls Tryz.prog 181 _ _ _ at hcon
    obtain ⟨fl, hfl⟩ : ∃ fl, fl = ks.filter fun x => !keyNot l has x := ⟨_, rfl⟩
    have hfll : fl.length ≤ l.length := by rw [hfl, ← hkl]; exact List.length_filter_le _ _
    rw [← hfl] at hcon
    have HCON := Lib.hid hcon
    have HHOLDS := Lib.hid hHolds
    have HFL := Lib.hid hfl
    have HKS := Lib.hid hks
    clear hcon hHolds hfl hks hown hg hc3 hc4
    go_wp2_with fail
    refine HCON.out.mono ?_
    rintro e w5 ⟨rfl, q, hw5⟩
    have hm5 : Mod (only g) w4 w5 := by rw [hw5]; exact mod_putRow encStr w4 g 0 q _
    have hh5 : Holds encStr w5 g 0 (fl ++ List.replicate (l.length - fl.length) []).toArray := by
      rw [hw5]
      refine holds_putRow encStr (Sort.ahead w4 q) g 0 ks.toArray _ HHOLDS.out ?_
      simp; omega
    have HM5 := Lib.hid hm5
    have HH5 := Lib.hid hh5
    clear hw5 hm5 hh5
    go_wp2_with fail
    go_ret
    refine ⟨_, rfl, ?_, HM4.out.andThen HM5.out (fun i hi e => by unfold only at e; omega)⟩
    have : tabKeys l has = fl := by rw [tabKeys, ← HKS.out, ← HFL.out]
    rw [this]
    refine SlR.mk rfl (by omega) hc2 (by have := HM5.out.size; omega) fun j u hu => ?_
    rw [List.getElem?_map] at hu
    obtain ⟨y, hy, rfl⟩ := Option.map_eq_some_iff.1 hu
    obtain ⟨hj, hyj⟩ := List.getElem?_eq_some_iff.1 hy
    have h1 := (HH5.out j (by simp; omega)).1
    rw [h1]
    have h2 : (fl ++ List.replicate (l.length - fl.length) [])[j]? = some y := by rw [List.getElem?_append_left hj]; exact hy
    simp [h2]
end Go.Proofs.YtbloppbiojopaaaGreatDoor
