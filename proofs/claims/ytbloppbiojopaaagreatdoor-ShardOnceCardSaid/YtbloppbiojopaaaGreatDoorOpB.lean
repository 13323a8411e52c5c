/- Package op, and package haystackref13: an op as bytes. -/
import Derived.Test.YtbloppbiojopaaaGreatDoorOpA
set_option maxRecDepth 100000
namespace Go.Proofs.YtbloppbiojopaaaGreatDoor
open Go Go.RowKit

theorem opIsKey_any (k : ByteArray) (w : World) (h1 : 1 ≤ k.size) (h2 : k.size ≤ 64) :
    Calls Tryz.prog 127 #[.string k] w fun e w' => e = .returned (.bool true) ∧ w' = w := by
  have h3 : ((k.size : Int) ≥ 1) := by omega
  have h4 : ((k.size : Int) ≤ 64) := by omega
  go_enter Tryz.func127, Tryz.ntmps127
  go_wp2
  go_ret
  exact ⟨rfl, rfl⟩

theorem r9Key_any (k : ByteArray) (w : World) (h1 : 1 ≤ k.size) (h2 : k.size ≤ 64) :
    Calls Tryz.prog 60 #[.string k] w fun e w' => e = .returned (.bool true) ∧ w' = w := by
  have h3 : ((k.size : Int) ≥ 1) := by omega
  have h4 : ((k.size : Int) ≤ 64) := by omega
  go_enter Tryz.func60, Tryz.ntmps60
  go_wp2
  go_ret
  exact ⟨rfl, rfl⟩

theorem opWithin_any (vp : Value) (ns : List Int) (w : World) (hp : SlR w encI vp ns) (hb : ∀ n ∈ ns, 0 ≤ n ∧ n ≤ 1099511627776) :
    Calls Tryz.prog 126 #[vp] w fun e w' => e = .returned (.bool true) ∧ w' = w := by
  obtain ⟨A, cap, rfl, hp1, hp2, -⟩ := id hp
  have HP := Lib.hid hp
  have HB := Lib.hid hb
  unfold maxLen at hp2
  clear hp hb
  go_enter Tryz.func126, Tryz.ntmps126
  go_wp2
  go_loop [7] (fun i => ∃ k : Nat, k ≤ ns.length ∧ i = .int .i64 k) (fun i => ns.length - (intOf i).toNat)
  case atStart => exact ⟨0, by omega, rfl⟩
  case round =>
    obtain ⟨k, hk, rfl⟩ := hrel
    by_cases hlt : k < ns.length
    · obtain ⟨pb, off, rfl, hc0⟩ := RowR.pos HP.out hlt
      obtain ⟨h1, h2⟩ := HB.out _ (List.getElem_mem hlt)
      obtain ⟨n, hn⟩ : ∃ n, n = ns[k] := ⟨_, rfl⟩
      rw [← hn] at hc0 h1 h2
      clear hn
      go_wp2
      go_round
      case rel => exact ⟨k + 1, by omega, by go_num⟩
      case measure => simp [intOf]; omega
    · obtain rfl : k = ns.length := by omega
      go_wp2
      go_ret
      exact ⟨rfl, rfl⟩

theorem bytes_len (s : ByteArray) : s.data.toList.length = s.size := Array.length_toList

/-- An op's bytes. -/
def opEnc (kind client seq : Int) (k : ByteArray) (text : List UInt8) : List UInt8 := numsEnc [kind, client, seq] ++ rowsEnc [k.data.toList, text]

structure OpOk (kind client seq : Int) (k : ByteArray) (text : List UInt8) : Prop where
  hkind : kind = 1 ∨ kind = 2
  hclient : 0 ≤ client ∧ client ≤ 1099511627776
  hseq : 0 ≤ seq ∧ seq ≤ 1099511627776
  hkey : 1 ≤ k.size ∧ k.size ≤ 64
  htext : text.length ≤ 4096
  hgone : kind = 2 → text = []

theorem rowsEnc_two (p q : List UInt8) : rowsEnc [p, q] = (numEnc p.length ++ p) ++ (numEnc q.length ++ q) := by simp [rowsEnc]

theorem opEnc_len {kind client seq : Int} {k : ByteArray} {text : List UInt8} (h : OpOk kind client seq k text) : (opEnc kind client seq k text).length ≤ 5000 := by
  unfold opEnc
  rw [rowsEnc_two]
  have h1 := numsEnc_len [kind, client, seq]
  have h2 := numEnc_len k.data.toList.length
  have h3 := numEnc_len text.length
  have h4 := bytes_len k
  have h5 := h.htext
  have h6 := h.hkey.2
  simp only [List.length_append, List.length_cons, List.length_nil] at *
  omega

theorem heap_two (w : World) (x y : Obj) : ((w.alloc x).alloc y).heap[w.heap.size]? = some x := (Below.heap_alloc _ _ _ (by simp)).trans (heap_alloc_new w _)

/-- '[]byte(s)': the string's bytes in memory of their own. -/
theorem sb_law {P : Program} {w : World} {ops : Array Oper} {rest : List Oper} {o : Oper} {a : Act} {Q : Exit → Act → World → Prop} {src dst e : TypeId} {x : Operand}
    (hgd : o.guard = none) (ho : o.op = .convert src dst x) (hs : P.underlying src = some .string) (hd : P.underlying dst = some (.slice e)) (he : P.underlying e = some (.int .u8))
    {s : ByteArray} (hx : a.eval x = .string s) (hsz : s.size ≤ maxLen)
    (h : ∀ v w', SlR w' encB v s.data.toList → Mod no w w' → v.ownBlock = some w.heap.size → wpList P ops Q rest (a.put o.dst v) w') : wpList P ops Q (o :: rest) a w := by
  refine wpList_plain hgd fun K hK => ?_
  have hr := run_bytes_of_string (P := P) w src dst e s hs hd he
  unfold Oper.wp execOp
  simp only [ho, Sem.run_bind, Sem.run_pure, Result.andThen_ok, hx, hr]
  refine hK _ _ (h _ _ ?_ ?_ rfl)
  · have hge := grownCap_ge w s.size 0 e
    have hle := grownCap_le_maxLen w s.size 0 e hsz
    have hlen := bytes_len s
    refine SlR.mk hlen.symm hge hle (by simp) fun j u hu => ?_
    rw [Nat.zero_add]
    have hj : j < s.data.toList.length := by
      have := (List.getElem?_eq_some_iff.1 hu).1; simpa using this
    have hcell := World.cell?_alloc_mark w.drew (bytesRow s (grownCap w s.size 0 e)) e ((bytesRow s (grownCap w s.size 0 e)).size, (bytesRow s (grownCap w s.size 0 e)).size + 1) j
    refine hcell.trans ?_
    rw [← hu]
    unfold bytesRow
    rw [Array.getElem?_append_left (by simpa using hj)]
    simp
  · exact ((Mod.refl no w).drew).alloc _

end Go.Proofs.YtbloppbiojopaaaGreatDoor
