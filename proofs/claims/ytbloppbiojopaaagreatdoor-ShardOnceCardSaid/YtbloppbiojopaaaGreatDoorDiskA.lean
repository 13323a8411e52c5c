/- Package disk: a disk without a file; package keep over it. -/
import Derived.Test.YtbloppbiojopaaaGreatDoorMap
import Derived.Test.YtbloppbiojopaaaGreatDoorRef1
import Derived.Test.YtbloppbiojopaaaGreatDoorMemC
set_option maxRecDepth 100000
namespace Go.Proofs.YtbloppbiojopaaaGreatDoor
open Go Go.RowKit

/-- A disk without a file. -/
def DiskE (w : World) (d mb : Nat) (room : Int) : Prop :=
  w.heap[d]? = some (.cells #[.int .i64 room, .map (some mb), .bool false, .int .i64 0] 106 (0, 0)) ∧ MapR w Value.string (fun v : Value => v) mb []

theorem DiskE.mod {w w' : World} {S : Nat → Prop} {d mb : Nat} {room : Int} (h : DiskE w d mb room) (hm : Mod S w w') (h1 : ¬ S d) (h2 : ¬ S mb) : DiskE w' d mb room :=
  ⟨hm.heap h.1 h1, h.2.mod hm h2⟩

theorem diskNew_ok (room : Int) (w : World) (h1 : 0 ≤ room) (h2 : room ≤ 1073741824) :
    Calls Tryz.prog 16 #[.int .i64 room] w fun e w' => ∃ d mb, e = .returned (.tuple #[P0 d, .int .i64 0]) ∧ DiskE w' d mb room ∧ w.heap.size ≤ d ∧ w.heap.size ≤ mb ∧ Mod no w w' := by
  have hmk := makeMap_eq
  have h3 : decide (room < 0) = false := by simp; omega
  have h4 : decide (1073741824 < room) = false := by simp; omega
  go_enter Tryz.func16, Tryz.ntmps16
  go_wp2
  go_ret2
  refine ⟨w.heap.size + 1, w.heap.size, rfl, ⟨?_, ?_⟩, by omega, by omega, ((Mod.refl no w).alloc _).alloc _⟩
  · exact (congrArg (fun k => ((w.alloc (.map #[] 0)).alloc _).heap[k]?) (by simp)).trans (heap_alloc_new _ _)
  · exact MapR.mod (MapR.made _ _ w w.heap.size rfl) ((Mod.refl no _).alloc _) (no_false _)

theorem zeroPFile (w : World) : (zeroValue 245).run Tryz.prog w = .ok (.pointer none) w := by
  simp [zeroValue, typeInfo]
  rfl

theorem diskRead_none (d mb : Nat) (room : Int) (name : ByteArray) (w : World) (h : DiskE w d mb room) :
    Calls Tryz.prog 82 #[P0 d, .string name] w fun e w' => e = .returned (.tuple #[.slice none 0 0, .int .i64 7]) ∧ w' = w := by
  have hl := run_lookup (P := Tryz.prog) keyS Tryz.underlying104 zeroPFile h.2 name false
  simp only [mget, Option.map_none, Option.getD_none, Bool.false_eq_true, if_false] at hl
  have c1 := cell_of_heap (i := 1) h.1
  simp only [List.getElem?_toArray, List.getElem?_cons_zero, List.getElem?_cons_succ] at c1
  clear h
  go_enter Tryz.func82, Tryz.ntmps82
  go_wp2
  go_ret2
  exact ⟨rfl, rfl⟩

theorem keepLoad_none (d mb : Nat) (room : Int) (name : ByteArray) (w : World) (h : DiskE w d mb room) :
    Calls Tryz.prog 40 #[P0 d, .string name] w fun e w' => e = .returned (.tuple #[.slice none 0 0, .int .i64 7]) ∧ w' = w := by
  have H := Lib.hid h
  clear h
  go_enter Tryz.func40, Tryz.ntmps40
  go_wp2_with (go_at_call 82; refine (diskRead_none d mb room name w H.out).mono ?_; rintro e W ⟨rfl, hw⟩; rw [hw]; clear hw W)
  go_ret2
  exact ⟨rfl, rfl⟩

theorem shFile_any (s : Nat) (p name : ByteArray) (w : World) (h : w.cell? ⟨s, 4, none⟩ = some (.string p)) (hp : p.size ≤ 1000) (hn : name.size ≤ 1000) :
    Calls Tryz.prog 41 #[P0 s, .string name] w fun e w' => e = .returned (.string (p ++ ⟨#[45]⟩ ++ name)) ∧ w' = w := by
  have h1 : ¬ 9223372036854775807 < p.size + 1 := by omega
  have h2 : ¬ 9223372036854775807 < p.size + 1 + name.size := by omega
  go_enter Tryz.func41, Tryz.ntmps41
  go_wp2
  go_ret
  exact ⟨rfl, rfl⟩
end Go.Proofs.YtbloppbiojopaaaGreatDoor
