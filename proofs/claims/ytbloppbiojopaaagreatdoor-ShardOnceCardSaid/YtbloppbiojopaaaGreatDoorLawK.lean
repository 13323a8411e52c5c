/- The law's own example: a document twice. -/
import Derived.Test.YtbloppbiojopaaaGreatDoorLawB
import Derived.Test.YtbloppbiojopaaaGreatDoorShH
import Derived.Test.YtbloppbiojopaaaGreatDoorMat
import Derived.Test.YtbloppbiojopaaaGreatDoorLawN
import Derived.Lib.SlBytesConst
set_option maxRecDepth 100000
namespace Go.Proofs.YtbloppbiojopaaaGreatDoor
open Go Go.RowKit

/-- A constant text's bytes. -/
theorem rowM (w : World) (l : List UInt8) (n b : Nat) (fr : Nat × Nat) (hn : n = l.length) (hb : b = w.heap.size) (hl : l.length ≤ 1000) : SlR (w.alloc (.cells (l.map encB).toArray 5 fr)) encB (.slice (some ⟨b, 0, none⟩) n n) l := by
  subst hn hb
  refine SlR.mk rfl (Nat.le_refl _) (by unfold maxLen; omega) (by simp) fun j u hu => ?_
  rw [Nat.zero_add, cell_of_heap (heap_alloc_new w _)]
  simpa using hu

theorem find_step {w0 W : World} {p : Nat} {a : ShAt} {x : ShSt} (h : Sh w0 W p a x) (hn : (x.tab.map (·.1)).Nodup) (hs : x.tab.length ≤ 1000000) (hb : ∀ p ∈ x.tab, p.1.size ≤ 1000000) (vp : Value) (q : List UInt8) (hp : SlR W encB vp q) (hp1 : 1 ≤ q.length) (hp2 : q.length ≤ 64) (r : List (List UInt8 × Nat)) (hr : shFound x.tab q = r) :
    Calls Tryz.prog 13 #[P0 a.s, vp] W fun e w' => ∃ v, e = .returned (.tuple #[v, .int .i64 0]) ∧ Sh w0 w' p a x ∧ SlK w' encM v r ∧ Mod no W w' := by
  subst hr
  obtain ⟨F, h1⟩ := h.1
  refine (shFind_any F a x vp q W h1 hn hs hb hp hp1 hp2).mono ?_
  rintro e w' ⟨v, rfl, g1, g2⟩
  exact ⟨v, rfl, h.mod g2, g1, g2⟩

def keyA : ByteArray := ⟨#[97]⟩
def sx1b (c s : Int) (k : ByteArray) (A : List UInt8) : ShSt := ⟨[(k, (A, true))], [(c, (s, [0, 1, 0]))], 2, 0, 1⟩
theorem ap1b (c s : Int) (k : ByteArray) (A : List UInt8) : applySt (sx1 c s k A) 1 c s k A = (sx1b c s k A, [0, 1, 0]) := by
  simp [applySt, sx1, sx1b, mget]

theorem foundK : shFound (sx1b 1 1 keyA [120, 121, 120]).tab [120] = [([97], 0), ([97], 2)] := by
  have h1 : tabKeys (sx1b 1 1 keyA [120, 121, 120]).tab true = [[97]] := by
    simp [tabKeys, sx1b, keyBytes, keyA, keyNot, tabGet, mget]
  have h2 : textOf (sx1b 1 1 keyA [120, 121, 120]).tab [97] = [120, 121, 120] := by
    simp [textOf, sx1b, keyA, tabGet, mget]
  have h3 : tabFind (sx1b 1 1 keyA [120, 121, 120]).tab [120] = [([97], 0), ([97], 2)] := by
    unfold tabFind
    rw [h1]
    simp only [List.flatMap_cons, List.flatMap_nil, List.append_nil, keyHits, h2]
    decide
  unfold shFound matSort
  rw [h3]
  apply List.mergeSort_of_pairwise
  simp [ltOf, matCmp, Lib.compareBytes]

set_option maxHeartbeats 4000000 in
theorem lawKnown_ok (w : World) : Calls Tryz.prog 5 #[] w fun e w' => e = .returned (.bool true) ∧ Mod no w w' := by
  have hok : OpOk 1 1 1 keyA [120, 121, 120] := ⟨.inl rfl, ⟨by omega, by omega⟩, ⟨by omega, by omega⟩, ⟨by decide, by decide⟩, by decide, by decide⟩
  have HOK := Lib.hid hok
  clear hok
  have kc := fun (w : World) (C : Array Value) (n c : Nat) => Lib.run_convert_bytes_const (P := Tryz.prog) w 22 5 C n c Tryz.underlying22 Tryz.underlying5
  go_enter Tryz.func5, Tryz.ntmps5
  go_wp2_with fail
  refine (start_step 65536 w (by decide) (by decide)).mono ?_
  rintro e wc ⟨p, a, rfl, h⟩
  have H := Lib.hid h
  clear h
  go_wp2_with fail
  refine (r13Encode_ok 1 1 1 keyA _ [120, 121, 120] _ HOK.out (rowM wc [120, 121, 120] 3 _ (3, 4) rfl rfl (by decide))).mono ?_
  rintro e wd ⟨vb, rfl, hn⟩
  have hm0 := ((Mod.refl no wc).alloc (.cells ([120, 121, 120].map encB).toArray 5 (3, 4))).trans hn.2
  have HS := Lib.hid (H.out.mod hm0)
  have hkept : Kept a wd vb (opEnc 1 1 1 keyA [120, 121, 120]) := ⟨hn.rd, H.out.fresh fun b hb => by have := (owns_block hn.1 b hb).1; have h2 := (Mod.refl no wc).alloc (.cells ([120, 121, 120].map encB).toArray 5 (3, 4)) |>.size; omega⟩
  have KB := Lib.hid hkept
  have cc := HS.out.cell
  clear hn hm0 hkept H
  go_wp2_with fail
  refine (apply_step HS.out 1 1 1 keyA vb [120, 121, 120] HOK.out KB.out 1 rfl (by decide) (by decide) (by decide) _ (ap1 1 1 keyA [120, 121, 120])).mono ?_
  rintro e wc ⟨v1, rfl, r1, r2, r3⟩
  have H1 := Lib.hid r1
  have K1 := Lib.hid r2
  have KB := Lib.hid (KB.out.mod r3)
  clear r1 r2 r3 cc HS
  go_wp2_with fail
  refine (same_is _ _ _ _ (K1.out.mod0 ((Mod.refl no wc).alloc (.cells #[.int .u8 0, .int .u8 1, .int .u8 0] 5))).1 (rowB wc [0, 1, 0] 3 _ rfl rfl (by decide))).mono ?_
  rintro e wd ⟨rfl, hm⟩
  have H1 := Lib.hid (H1.out.mod (((Mod.refl no _).alloc (.cells #[.int .u8 0, .int .u8 1, .int .u8 0] 5)).trans hm))
  have KB := Lib.hid (KB.out.mod0 (((Mod.refl no _).alloc (.cells #[.int .u8 0, .int .u8 1, .int .u8 0] 5)).trans hm))
  have cc := H1.out.cell
  clear hm K1
  go_wp2_with fail
  refine (apply_step H1.out 1 1 1 keyA vb [120, 121, 120] HOK.out KB.out 2 rfl (by simp [sx1]) (by simp [sx1]) (by simp [sx1]) _ (ap1b 1 1 keyA [120, 121, 120])).mono ?_
  rintro e wc ⟨v2, rfl, r1, r2, r3⟩
  have H2 := Lib.hid r1
  have K2 := Lib.hid r2
  clear r1 r2 r3 cc H1 KB
  go_wp2_with fail
  refine (same_is _ _ _ _ (K2.out.mod0 ((Mod.refl no wc).alloc (.cells #[.int .u8 0, .int .u8 1, .int .u8 0] 5))).1 (rowB wc [0, 1, 0] 3 _ rfl rfl (by decide))).mono ?_
  rintro e wd ⟨rfl, hm⟩
  have H2 := Lib.hid (H2.out.mod (((Mod.refl no _).alloc (.cells #[.int .u8 0, .int .u8 1, .int .u8 0] 5)).trans hm))
  have cc := H2.out.cell
  clear hm K2
  go_wp2_with fail
  refine (find_step (H2.out.mod ((Mod.refl no wd).alloc (.cells #[.int .u8 120] 5 (1, 2)))) (by simp [sx1b]) (by simp [sx1b]) (by intro q hq; simp [sx1b] at hq; subst hq; decide) _ [120] (rowM wd [120] 1 _ (1, 2) rfl rfl (by decide)) (by decide) (by decide) _ foundK).mono ?_
  rintro e wc ⟨vl, rfl, r1, r2, r3⟩
  have H3 := Lib.hid r1
  have L3 := Lib.hid r2
  clear r1 r2 r3 cc H2
  have cc := H3.out.cell
  go_wp2_with fail
  have hm : Mod no wc (wc.alloc (.cells #[encStr [97], .int .i64 0, encStr [97], .int .i64 2] 61)) := (Mod.refl no wc).alloc _
  have hrow : SlK (wc.alloc (.cells #[encStr [97], .int .i64 0, encStr [97], .int .i64 2] 61)) encM (.slice (some ⟨wc.heap.size, 0, none⟩) 2 2) [([97], 0), ([97], 2)] := RowR.madeAt wc [encStr [97], .int .i64 0, encStr [97], .int .i64 2] 61 2 _ rfl (by omega)
  refine (matches_any _ _ _ _ _ (RowR.mod L3.out hm (fun _ _ => no_false _)) hrow).mono ?_
  rintro e wd ⟨rfl, hm2⟩
  have H4 := Lib.hid (H3.out.mod (hm.trans hm2))
  have cc2 := H4.out.cell
  clear hm hm2 hrow cc H3 L3
  go_wp2_with fail
  refine (applied_step H4.out).mono ?_
  rintro e W ⟨rfl, hW⟩
  rw [hW]
  clear hW W
  go_wp2_with fail
  go_ret
  exact ⟨rfl, H4.out.2.2.1⟩
end Go.Proofs.YtbloppbiojopaaaGreatDoor
