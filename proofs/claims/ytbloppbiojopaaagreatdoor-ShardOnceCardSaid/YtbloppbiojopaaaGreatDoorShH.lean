/- Package shard: Find, where there is no segment. -/
import Derived.Test.YtbloppbiojopaaaGreatDoorShG
import Derived.Test.YtbloppbiojopaaaGreatDoorMemH
import Derived.Test.YtbloppbiojopaaaGreatDoorShA
set_option maxRecDepth 100000
namespace Go.Proofs.YtbloppbiojopaaaGreatDoor
open Go Go.RowKit

/-- What Find tells. -/
def shFound (l : Tab) (p : List UInt8) : List (List UInt8 × Nat) := matSort (tabFind l p)

theorem tabFind_len {w : World} {F : Nat → Prop} {t mb : Nat} {l : Tab} (h : TabR w F t mb l) (p : List UInt8) (hs : l.length ≤ 1000000) : (tabFind l p).length ≤ 4097000000 := by
  unfold tabFind
  have h1 := flat_len (keyHits l p) 4097 (fun x => hits_len h p x) (tabKeys l true)
  have h2 : (tabKeys l true).length ≤ l.length := by
    rw [tabKeys]
    refine Nat.le_trans (List.length_filter_le _ _) ?_
    rw [List.length_mergeSort]; simp [keyBytes]
  omega

set_option maxHeartbeats 1000000 in
theorem shFind_any (F : Nat → Prop) (a : ShAt) (x : ShSt) (vp : Value) (p : List UInt8) (w : World) (h : ShR w F a x) (hn : (x.tab.map (·.1)).Nodup) (hs : x.tab.length ≤ 1000000) (hb : ∀ p ∈ x.tab, p.1.size ≤ 1000000) (hp : SlR w encB vp p) (hp1 : 1 ≤ p.length) (hp2 : p.length ≤ 64) :
    Calls Tryz.prog 13 #[P0 a.s, vp] w fun e w' => ∃ v, e = .returned (.tuple #[v, .int .i64 0]) ∧ SlK w' encM v (shFound x.tab p) ∧ Mod no w w' := by
  obtain ⟨Ap, cp, rfl, -⟩ := id hp
  have H := Lib.hid h
  have HN := Lib.hid hn
  have HB := Lib.hid hb
  have HP := Lib.hid hp
  have c0 := cell_of_heap (i := 0) h.cells
  have c3 := cell_of_heap (i := 3) h.cells
  have c5 := cell_of_heap (i := 5) h.cells
  simp only [List.getElem?_toArray, List.getElem?_cons_zero, List.getElem?_cons_succ] at c0 c3 c5
  have g1 : decide ((p.length : Int) < 1) = false := by simp; omega
  have g2 : decide (64 < (p.length : Int)) = false := by simp; omega
  have hfl := tabFind_len h.tab p hs
  clear h hn hb hp c3
  go_enter Tryz.func13, Tryz.ntmps13
  go_wp2_with fail
  refine (memFind_any F a.t a.mb x.tab _ p w H.out.tab HN.out hs HB.out HP.out hp1 hp2).mono ?_
  rintro e w1 ⟨v, rfl, hown, hm1⟩
  have c0' := hm1.cell c0 (no_false _)
  have HOWN := Lib.hid hown
  have HM1 := Lib.hid hm1
  have hsz := hm1.size
  clear c5 c0 hown hm1
  go_wp2_with fail
  refine wp_loop_rounds 1 ?_
  rw [rounds_succ]
  go_wp2_with fail
  refine (sortMatch_any v _ _ w1 HOWN.out (by omega)).mono ?_
  rintro e w2 ⟨rfl, hs2, hm2⟩
  have HS2 := Lib.hid hs2
  have hblk := owns_block HOWN.out
  have HM2 : Hid (Mod no w w2) := Lib.hid (HM1.out.andThen hm2 (fun i hi e => by have := hblk i e.symm; omega))
  clear hs2 hm2 hblk c0'
  go_wp2_with fail
  go_ret2
  exact ⟨v, rfl, HS2.out, HM2.out⟩
end Go.Proofs.YtbloppbiojopaaaGreatDoor
