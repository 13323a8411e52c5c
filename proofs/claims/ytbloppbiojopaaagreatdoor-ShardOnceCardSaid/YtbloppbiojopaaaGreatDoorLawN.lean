/- ShardOnce: what the ops come to. -/
import Derived.Test.YtbloppbiojopaaaGreatDoorLawB
set_option maxRecDepth 100000
namespace Go.Proofs.YtbloppbiojopaaaGreatDoor
open Go Go.RowKit

theorem num_small (n : Nat) (h : n < 128) : numEnc (n : Int) = [UInt8.ofNat n] := by
  have hc : clampN (n : Int) = n := by unfold clampN; omega
  unfold numEnc
  rw [hc, leb_small h]

theorem num0 : numEnc 0 = [0] := num_small 0 (by decide)
theorem num1 : numEnc 1 = [1] := num_small 1 (by decide)
theorem num7 : numEnc 7 = [7] := num_small 7 (by decide)
theorem num13 : numEnc 13 = [13] := num_small 13 (by decide)
theorem rep_0_0 : repEnc 0 [0] = [0, 1, 0] := by simp [repEnc, numsEnc, num0, num1]
theorem rep_0_1 : repEnc 0 [1] = [0, 1, 1] := by simp [repEnc, numsEnc, num0, num1]
theorem rep_0 : repEnc 0 [] = [0, 0] := by simp [repEnc, numsEnc, num0]
theorem rep_7 : repEnc 7 [] = [7, 0] := by simp [repEnc, numsEnc, num0, num7]
theorem rep_13 : repEnc 13 [] = [13, 0] := by simp [repEnc, numsEnc, num0, num13]

section
variable (c s : Int) (k : ByteArray) (A B : List UInt8)
def sx0 : ShSt := ⟨[], [], 0, 0, 1⟩
def sx1 : ShSt := ⟨[(k, (A, true))], [(c, (s, [0, 1, 0]))], 1, 0, 1⟩
def sx2 : ShSt := ⟨[(k, (B, true))], [(c, (s, [0, 1, 0])), (c + 1, (1, [0, 1, 1]))], 2, 0, 1⟩
def sx3 : ShSt := ⟨[(k, (B, true))], [(c, (s, [0, 1, 0])), (c + 1, (1, [0, 1, 1]))], 3, 0, 1⟩
def sx4 : ShSt := ⟨[(k, (B, true))], [(c, (s, [0, 1, 0])), (c + 1, (1, [0, 1, 1]))], 4, 0, 1⟩
def sx5 : ShSt := ⟨[(k, ([], false))], [(c, (s + 1, [0, 0])), (c + 1, (1, [0, 1, 1]))], 5, 0, 1⟩
def sx6 : ShSt := ⟨[(k, ([], false))], [(c, (s + 2, [7, 0])), (c + 1, (1, [0, 1, 1]))], 6, 0, 1⟩

theorem ap1 : applySt sx0 1 c s k A = (sx1 c s k A, [0, 1, 0]) := by
  simp [applySt, sx0, sx1, doneSt, doesSt, mget, mput, tabGet, rep_0_0]
theorem ap2 : applySt (sx1 c s k A) 1 (c + 1) 1 k B = (sx2 c s k B, [0, 1, 1]) := by
  have h : ¬ c + 1 = c := by omega
  simp [applySt, sx1, sx2, doneSt, doesSt, mget, mput, tabGet, h, rep_0_1]
theorem ap3 : applySt (sx2 c s k B) 1 c s k A = (sx3 c s k B, [0, 1, 0]) := by
  simp [applySt, sx2, sx3, mget]
theorem ap4 : applySt (sx3 c s k B) 2 c (s - 1) k [] = (sx4 c s k B, [13, 0]) := by
  have h : s - 1 < s := by omega
  simp [applySt, sx3, sx4, mget, h, rep_13]
theorem ap5 : applySt (sx4 c s k B) 2 c (s + 1) k [] = (sx5 c s k, [0, 0]) := by
  have h : ¬ s + 1 < s := by omega
  have h2 : ¬ s + 1 = s := by omega
  simp [applySt, sx4, sx5, doneSt, doesSt, mget, mput, tabGet, h, h2, rep_0]
theorem ap6 : applySt (sx5 c s k) 2 c (s + 2) k [] = (sx6 c s k, [7, 0]) := by
  have h : ¬ s + 2 < s + 1 := by omega
  have h2 : ¬ s + 2 = s + 1 := by omega
  simp [applySt, sx5, sx6, doneSt, doesSt, mget, mput, tabGet, h, h2, rep_7]
theorem gt3 : tabGet k (sx3 c s k B).tab = (B, true, true) := by simp [tabGet, sx3, mget]
theorem gt4 : tabGet k (sx4 c s k B).tab = (B, true, true) := by simp [tabGet, sx4, mget]
theorem gt6 : tabGet k (sx6 c s k).tab = ([], false, true) := by simp [tabGet, sx6, mget]
end
end Go.Proofs.YtbloppbiojopaaaGreatDoor
