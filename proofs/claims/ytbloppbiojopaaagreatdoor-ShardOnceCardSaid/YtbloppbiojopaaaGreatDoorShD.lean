/- Package shard: Apply of an op that is one; the table does not go into a segment. -/
import Derived.Test.YtbloppbiojopaaaGreatDoorShC
import Derived.Deep.CutRange
import Derived.Laws.EntriesVeiled
set_option maxRecDepth 100000
namespace Go.Proofs.YtbloppbiojopaaaGreatDoor
open Go Go.RowKit

theorem ShR.setApplied {w : World} {F : Nat → Prop} {a : ShAt} {x : ShSt} (h : ShR w F a x) (n : Int) : ShR (w.setCell ⟨a.s, 7, none⟩ (.int .i64 n)) F a { x with applied := n } := by
  have hm : Mod (only a.s) w (w.setCell ⟨a.s, 7, none⟩ (.int .i64 n)) := (Mod.refl _ w).put (only_self _) _
  obtain ⟨g1, g2, ⟨raw, g3, g4⟩, g5, g6, g7⟩ := h
  have hf : ∀ k, F k → ¬ only a.s k := fun k hk e => g6.1 (by cases e; exact hk)
  exact ⟨heap_setCell_same g1 _, g2.mod hm (fun e => g5.1 e.symm) (fun e => g5.2.1 e.symm) hf, ⟨raw, g3.mod hm (fun e => g5.2.2.1 e.symm), g4.mono fun _ _ h => h.mod hm hf⟩, g5, g6, fun k hk => Nat.lt_of_lt_of_le (g7 k hk) hm.size⟩

theorem keyI : KeyEnc Tryz.prog 3 encI := keyInt Tryz.underlying3

theorem zeroSession (w : World) : (zeroValue 78).run Tryz.prog w = .ok (.agg #[.int .i64 0, .slice none 0 0]) w := by
  simp [zeroValue, typeInfo]
  rfl

/-- The blocks that an op turns. -/
def shS (a : ShAt) : Nat → Prop := fun k => k = a.s ∨ k = a.mb ∨ k = a.sm

/-- .. with the sessions. -/
def doneSt (x : ShSt) (kind client seq : Int) (k : ByteArray) (text : List UInt8) : ShSt × List UInt8 :=
  ({ x with applied := x.applied + 1, tab := (doesSt x kind k text).1, sess := mput client (seq, repEnc (doesSt x kind k text).2.1 (doesSt x kind k text).2.2) x.sess }, repEnc (doesSt x kind k text).2.1 (doesSt x kind k text).2.2)

/-- What Apply does. -/
def applySt (x : ShSt) (kind client seq : Int) (k : ByteArray) (text : List UInt8) : ShSt × List UInt8 :=
  match mget client x.sess with
  | none => doneSt x kind client seq k text
  | some (s, r) => if seq < s then ({ x with applied := x.applied + 1 }, repEnc 13 []) else if seq = s then ({ x with applied := x.applied + 1 }, r) else doneSt x kind client seq k text

theorem sesLook {w : World} {F : Nat → Prop} {a : ShAt} {x : ShSt} (h : ShR w F a x) (client : Int) :
    ∃ so r A cap okb, (∀ W, Mod no w W → (Instr.lookup 68 (.map (some a.sm)) (.int .i64 client) true).run Tryz.prog W = .ok (.tuple #[.agg #[.int .i64 so, .slice A r.length cap], .bool okb]) W) ∧
      ((okb = false ∧ mget client x.sess = none) ∨ (okb = true ∧ mget client x.sess = some (so, r) ∧ SlR w encB (.slice A r.length cap) r ∧ r.length ≤ 200 ∧ ∀ k, (Value.slice A r.length cap).ownBlock = some k → F k)) := by
  obtain ⟨raw, g3, g4⟩ := h.sess
  rcases g4.get client with ⟨e1, e2⟩ | ⟨p, v, e1, e2, s, rfl, e3, e4, e5⟩
  · refine ⟨0, ([] : List UInt8), none, 0, false, fun W hm => ?_, .inl ⟨rfl, e1⟩⟩
    have := run_lookup (P := Tryz.prog) keyI Tryz.underlying68 zeroSession (g3.mod hm (no_false _)) client true
    rw [e2] at this
    exact this
  · obtain ⟨A, cap, rfl, -⟩ := id e3
    refine ⟨p.1, p.2, A, cap, true, fun W hm => ?_, .inr ⟨rfl, e1, e3, e4, e5⟩⟩
    have := run_lookup (P := Tryz.prog) keyI Tryz.underlying68 zeroSession (g3.mod hm (no_false _)) client true
    rw [e2] at this
    exact this

set_option maxHeartbeats 1000000 in
theorem shApply_ok (F : Nat → Prop) (a : ShAt) (x : ShSt) (kind client seq : Int) (k : ByteArray) (vd : Value) (text : List UInt8) (w : World) (hok : OpOk kind client seq k text) (hd : SlR w encB vd (opEnc kind client seq k text)) (h : ShR w F a x)
    (hvd : ∀ b, vd.ownBlock = some b → b ≠ a.s) (ha0 : 0 ≤ x.applied) (ha : x.applied ≤ 4611686018427387904) (hlen : x.tab.length ≤ 6) :
    Calls Tryz.prog 7 #[P0 a.s, .int .i64 (x.applied + 1), vd] w fun e w' => ∃ v, e = .returned v ∧ SlR w' encB v (applySt x kind client seq k text).2 ∧ (∀ b, v.ownBlock = some b → w.heap.size ≤ b) ∧ ShNew (shS a) w w' F a (applySt x kind client seq k text).1 := by
  have H := Lib.hid h
  have HD := Lib.hid hd
  have HOK := Lib.hid hok
  have HVD := Lib.hid hvd
  have c7 := cell_of_heap (i := 7) h.cells
  have f7 := free_of_heap (i := 7) h.cells
  simp only [List.getElem?_toArray, List.getElem?_cons_zero, List.getElem?_cons_succ] at c7
  clear h hd hok hvd
  go_enter Tryz.func7, Tryz.ntmps7
  go_wp2_with fail
  have h1 := H.out.setApplied (x.applied + 1)
  have hm1 : Mod (shS a) w (w.setCell ⟨a.s, 7, none⟩ (.int .i64 (x.applied + 1))) := (Mod.refl _ w).put (.inl rfl) _
  have hd1 := RowR.mod HD.out ((Mod.refl (only a.s) w).put (only_self _) (i := 7) (.int .i64 (x.applied + 1))) (fun j hj e => HVD.out j hj e)
  obtain ⟨w1, hw1⟩ : ∃ w1, w1 = w.setCell ⟨a.s, 7, none⟩ (.int .i64 (x.applied + 1)) := ⟨_, rfl⟩
  obtain ⟨x1, hx1⟩ : ∃ x1 : ShSt, x1 = { x with applied := x.applied + 1 } := ⟨_, rfl⟩
  rw [← hw1] at h1 hm1 hd1 ⊢
  rw [← hx1] at h1
  have H1 := Lib.hid h1
  have HM1 := Lib.hid hm1
  have HX1 := Lib.hid hx1
  clear hw1 h1 hm1 c7 f7 hx1
  refine (opDecode_ok kind client seq k vd text w1 HOK.out hd1).mono ?_
  rintro e w2 ⟨vt, rfl, ht, hvt, hm2⟩
  obtain ⟨At, ct, rfl, -⟩ := id ht
  have HT := Lib.hid ht
  have H2 := Lib.hid (H1.out.mod0 hm2)
  have HM2 := Lib.hid (HM1.out.trans (hm2.mono fun _ _ f => f.elim))
  have hw2sz := HM2.out.size
  clear ht hvt hm2 hd1 H1 HM1
  go_wp2_with fail
  have hm3 := (Mod.refl no w2).alloc (.cells #[.int .i64 kind, .int .i64 client, .int .i64 seq, .string k, .slice At text.length ct] 58)
  have hB := heap_alloc_new w2 (.cells #[.int .i64 kind, .int .i64 client, .int .i64 seq, .string k, .slice At text.length ct] 58)
  have h3 := H2.out.mod0 hm3
  have ht3 := RowR.mod HT.out hm3 (fun _ _ => no_false _)
  have hm3' := HM2.out.trans (hm3.mono fun _ _ f => f.elim)
  obtain ⟨w3, hw3⟩ : ∃ w3, w3 = w2.alloc (.cells #[.int .i64 kind, .int .i64 client, .int .i64 seq, .string k, .slice At text.length ct] 58) := ⟨_, rfl⟩
  rw [← hw3] at hB h3 ht3 hm3' ⊢
  obtain ⟨so, r, As, cs, okb, hlook, hses⟩ := sesLook h3 client
  rw [show x1.sess = x.sess by rw [HX1.out]] at hses
  have c6 := cell_of_heap (i := 6) h3.cells
  have b1 := cell_of_heap (i := 1) hB
  simp only [List.getElem?_toArray, List.getElem?_cons_zero, List.getElem?_cons_succ] at c6 b1
  have hkeep : ∀ W, Mod no w3 W → (W.cell? ⟨a.s, 6, none⟩ = some (.map (some a.sm)) ∧ W.cell? ⟨w2.heap.size, 1, none⟩ = some (.int .i64 client) ∧ (Instr.lookup 68 (.map (some a.sm)) (.int .i64 client) true).run Tryz.prog W = .ok (.tuple #[.agg #[.int .i64 so, .slice As r.length cs], .bool okb]) W) :=
    fun W hm => ⟨hm.cell c6 (no_false _), hm.cell b1 (no_false _), hlook W hm⟩
  have KS := Lib.hid hkeep
  have HB := Lib.hid hB
  have H3 := Lib.hid h3
  have HT3 := Lib.hid ht3
  have HM3 := Lib.hid hm3'
  have HSES := Lib.hid hses
  clear hm3 hB h3 ht3 hm3' hw3 hlook hses c6 b1 hkeep HT H2 HM2
  go_cut [9, 10] from 13 (fun s9 s10 wc => s9 = P0 w3.heap.size ∧ s10 = .bool okb ∧ wc = (w3.alloc (.cells #[.int .i64 so, .slice As r.length cs] 78)).drew)
  case first =>
   go_region_held3 (fun W => W.cell? ⟨a.s, 6, none⟩ = some (.map (some a.sm)) ∧ W.cell? ⟨w2.heap.size, 1, none⟩ = some (.int .i64 client) ∧ (Instr.lookup 68 (.map (some a.sm)) (.int .i64 client) true).run Tryz.prog W = .ok (.tuple #[.agg #[.int .i64 so, .slice As r.length cs], .bool okb]) W) (first | exact KS.out _ ((Mod.refl no w3).drew) | exact KS.out _ ((Mod.refl no w3).drew.alloc _) | exact KS.out _ (((Mod.refl no w3).drew.alloc _).putNew (by simp) _) | exact KS.out _ ((((Mod.refl no w3).drew.alloc _).putNew (by simp) _).putNew (by simp) _)) (fail)
   all_goals (go_wp2_with fail; go_meet; case rel => exact ⟨rfl, rfl, rfl⟩)
  case rest =>
  obtain ⟨rfl, rfl, hwc⟩ := hcut
  have hm4 : Mod no w3 wc := by rw [hwc]; exact ((Mod.refl no w3).alloc _).drew
  have hN : wc.heap[w3.heap.size]? = some (.cells #[.int .i64 so, .slice As r.length cs] 78 (0, 0)) := by rw [hwc]; exact heap_alloc_new w3 _
  have h4 := H3.out.mod0 hm4
  have hB4 := hm4.heap HB.out (no_false _)
  have ht4 := RowR.mod HT3.out hm4 (fun _ _ => no_false _)
  have hm4' := HM3.out.trans (hm4.mono fun _ _ f => f.elim)
  have hsl : okb = true → SlR wc encB (.slice As r.length cs) r := fun h => by
    rcases HSES.out with ⟨h1, -⟩ | ⟨-, -, h1, -⟩
    · rw [h] at h1; cases h1
    · exact RowR.mod h1 hm4 (fun _ _ => no_false _)
  have b2 := cell_of_heap (i := 2) hB4
  have n0 := cell_of_heap (i := 0) hN
  have n1 := cell_of_heap (i := 1) hN
  simp only [List.getElem?_toArray, List.getElem?_cons_zero, List.getElem?_cons_succ] at b2 n0 n1
  have H4 := Lib.hid h4
  have HB4 := Lib.hid hB4
  have HT4 := Lib.hid ht4
  have HM4 := Lib.hid hm4'
  have HSL := Lib.hid hsl
  clear hwc hN h4 hB4 ht4 hm4' hsl KS H3 HB HT3 HM3 hm4
  go_upto_if 47 with (fail)
  go_cut [10] from 13 (fun s10 W => s10 = .bool okb ∧ W = wc ∧ Hid (applySt x kind client seq k text = doneSt x kind client seq k text))
  case first =>
    cases okb
    · have hd : applySt x kind client seq k text = doneSt x kind client seq k text := by
        rcases HSES.out with ⟨-, h1⟩ | ⟨h1, -⟩
        · unfold applySt; rw [h1]
        · cases h1
      have HDN := Lib.hid hd
      clear hd
      go_wp2_with fail
      go_meet
      case rel => exact ⟨rfl, rfl, HDN⟩
    · have hg : mget client x.sess = some (so, r) := by
        rcases HSES.out with ⟨h1, -⟩ | ⟨-, h1, -⟩
        · cases h1
        · exact h1
      have HG := Lib.hid hg
      clear hg
      go_wp2_with (fail)
      · have hlt : seq < so := by assumption
        refine (opEncodeReply_any 13 (.slice none 0 0) [] wc (by simp) (SlR.nil _ _)).mono ?_
        rintro e W ⟨v, rfl, hn⟩
        have HN := Lib.hid hn
        have HL := Lib.hid hlt
        clear hn hlt
        go_wp2_with fail
        go_ret
        have he : applySt x kind client seq k text = (x1, repEnc 13 []) := by unfold applySt; rw [HG.out, HX1.out]; simp [HL.out]
        rw [he]
        exact ⟨v, rfl, RowR.ofOwns HN.out.1, fun b hb => by have := (owns_block HN.out.1 b hb).1; have := HM4.out.size; omega, W.heap.size, W.heap.size, (H4.out.mod0 HN.out.2).grow0 _, (HM4.out.trans (HN.out.2.mono fun _ _ f => f.elim)).size, Nat.le_refl _, HM4.out.trans (HN.out.2.mono fun _ _ f => f.elim)⟩
      · have heq' : (seq == so) = true := by assumption
        have heq : seq = so := by simpa using heq'
        clear heq'
        have hrl : r.length ≤ 200 := by
          rcases HSES.out with ⟨h1, -⟩ | ⟨-, -, -, h1, -⟩
          · cases h1
          · exact h1
        refine (bClone_any (.slice As r.length cs) r wc (HSL.out (by trivial)) (by omega)).mono ?_
        rintro e W ⟨v, rfl, hn, hm, -⟩
        have HN := Lib.hid hn
        have HMW := Lib.hid hm
        have HL := Lib.hid heq
        clear hn hm heq
        go_wp2_with fail
        go_ret
        have he : applySt x kind client seq k text = (x1, r) := by unfold applySt; rw [HG.out, HX1.out]; simp [HL.out]
        rw [he]
        exact ⟨v, rfl, RowR.ofOwns HN.out, fun b hb => by have := (owns_block HN.out b hb).1; have := HM4.out.size; omega, W.heap.size, W.heap.size, (H4.out.mod0 HMW.out).grow0 _, (HM4.out.trans (HMW.out.mono fun _ _ f => f.elim)).size, Nat.le_refl _, HM4.out.trans (HMW.out.mono fun _ _ f => f.elim)⟩
      · have h1 : so ≤ seq := by assumption
        have h2' : (seq == so) = false := by assumption
        have h2 : ¬ seq = so := by simpa using h2'
        have hd : applySt x kind client seq k text = doneSt x kind client seq k text := by
          unfold applySt; rw [HG.out]; simp only []; rw [if_neg (by omega), if_neg h2]
        have HDN := Lib.hid hd
        clear hd
        go_meet
        case rel => exact ⟨rfl, rfl, HDN⟩
  case rest =>
  obtain ⟨rfl, rfl, HDN⟩ := hcut
  obtain ⟨q, hq⟩ : ∃ q, doesSt x1 kind k text = q := ⟨_, rfl⟩
  have hql := doesSt_nums x1 kind k text
  have hqt := doesSt_tab x1 kind k text
  rw [hq] at hql hqt
  rw [show x1.tab = x.tab by rw [HX1.out]] at hqt
  have HQ := Lib.hid hq
  clear hq n0 n1 b2
  have HK := Lib.hid HOK.out.hkind
  rcases HK.out with hk1 | hk1
  all_goals
    have HK1 := Lib.hid hk1
    subst hk1
    go_wp2_with fail
    obtain ⟨w5, hw5⟩ : ∃ w5, w5 = wc.alloc (.cells #[.nilFunc, .func (.func 27) #[P0 a.s] #[], .func (.func 28) #[P0 a.s] #[]] 82) := ⟨_, rfl⟩
    have hm5 : Mod no wc w5 := by rw [hw5]; exact (Mod.refl no wc).alloc _
    have hF : w5.heap[wc.heap.size]? = some (.cells #[.nilFunc, .func (.func 27) #[P0 a.s] #[], .func (.func 28) #[P0 a.s] #[]] 82 (0, 0)) := by rw [hw5]; exact heap_alloc_new wc _
    rw [← hw5]
    have hB5 := hm5.heap HB4.out (no_false _)
    have b0 := cell_of_heap (i := 0) hB5
    have b1 := cell_of_heap (i := 1) hB5
    have b2 := cell_of_heap (i := 2) hB5
    have b3 := cell_of_heap (i := 3) hB5
    have b4 := cell_of_heap (i := 4) hB5
    have g1 := cell_of_heap (i := 1) hF
    have g2 := cell_of_heap (i := 2) hF
    simp only [List.getElem?_toArray, List.getElem?_cons_zero, List.getElem?_cons_succ] at b0 b1 b2 b3 b4 g1 g2
    have H5 := Lib.hid (H4.out.mod0 hm5)
    have HB5 := Lib.hid hB5
    have HT5 := Lib.hid (RowR.mod HT4.out hm5 (fun _ _ => no_false _))
    have HM5 := Lib.hid (HM4.out.trans (hm5.mono fun _ _ f => f.elim))
    clear hw5 hm5 hF hB5 H4 HB4 HT4 HM4
    go_still_tail 5, (by kernel_rfl)
    change wpList _ _ _ _ _ w5.drew
    generalize hW6 : w5.drew = w6
    have hm6 : Mod no w5 w6 := by rw [← hW6]; exact (Mod.refl no w5).drew
    have H6 := Lib.hid (H5.out.mod0 hm6)
    have HB6 := Lib.hid (hm6.heap HB5.out (no_false _))
    have HT6 := Lib.hid (RowR.mod HT5.out hm6 (fun _ _ => no_false _))
    have HM6 := Lib.hid (HM5.out.trans (hm6.mono fun _ _ f => f.elim))
    clear hW6 hm6 b0 b1 b2 b3 b4 g1 g2 H5 HB5 HT5 HM5
    go_wp2_with fail
    first
      | refine (shDoes1 F a x1 client seq k _ text w6 H6.out HT6.out HOK.out.htext HOK.out.hkey.1 HOK.out.hkey.2 q HQ.out).mono ?_
      | refine (shDoes2 F a x1 client seq k _ text w6 H6.out HT6.out HOK.out.hkey.1 HOK.out.hkey.2 q HQ.out).mono ?_
    rintro e w7 ⟨vn, rfl, hn, n1, n2, h7, hn1, hn17, hm7⟩
    obtain ⟨An, cn, rfl, -⟩ := id hn
    have hlts := (Array.getElem?_eq_some_iff.1 H.out.cells).1
    have hltt := H.out.tab.lt
    obtain ⟨raw0, hltm, -⟩ := H.out.sess
    have hltm := hltm.lt
    have hne : ¬ only a.mb w2.heap.size := fun e => by unfold only at e; omega
    have h6sz := HM6.out.size
    have h7sz := hm7.size
    have h7f := h7.full (by omega)
    have HB7 := Lib.hid (hm7.heap HB6.out hne)
    have H7 := Lib.hid h7f
    have HN7 := Lib.hid hn
    have HM7 := Lib.hid (HM6.out.trans (hm7.mono fun i _ h => .inr (.inl h)))
    clear hn h7 hm7 hne h7f H6 HB6 HT6 HM6
    go_wp2_with fail
    refine (opEncodeReply_any q.2.1 (.slice An q.2.2.length cn) q.2.2 w7 (by omega) HN7.out).mono ?_
    rintro e w8 ⟨vr, rfl, hr⟩
    obtain ⟨Ar, cr, rfl⟩ := owns_slice hr.1
    have h8sz := hr.2.size
    have h8 := H7.out.mod0 hr.2
    have h8f : ShR w8 (grown F n1 w8.heap.size) a { x1 with tab := q.1 } := h8.full (by omega)
    have HR8 := Lib.hid hr.1
    have HB8 := Lib.hid (hr.2.heap HB7.out (no_false _))
    have H8 := Lib.hid h8f
    have HM8 := Lib.hid (HM7.out.trans (hr.2.mono fun _ _ f => f.elim))
    clear hr h8 h8f HB7 H7 HM7 HN7
    go_wp2_with fail
    have b1 := cell_of_heap (i := 1) HB8.out
    have b2 := cell_of_heap (i := 2) HB8.out
    have g6 := cell_of_heap (i := 6) H8.out.cells
    simp only [List.getElem?_toArray, List.getElem?_cons_zero, List.getElem?_cons_succ] at b1 b2 g6
    go_still_tail 10, (by kernel_rfl)
    change wpList _ _ _ _ _ w8.drew
    generalize hW9 : w8.drew = w9
    have hm9 : Mod no w8 w9 := by rw [← hW9]; exact (Mod.refl no w8).drew
    have h9sz : w9.heap.size = w8.heap.size := by rw [← hW9]; rfl
    have h9 := H8.out.mod0 hm9
    obtain ⟨raw, hmap, hents⟩ := h9.sess
    have hses : SesR w9 (grown F n1 w8.heap.size) (seq, repEnc q.2.1 q.2.2) (.agg #[.int .i64 seq, .slice Ar (repEnc q.2.1 q.2.2).length cr]) :=
      ⟨_, rfl, RowR.mod (RowR.ofOwns HR8.out) hm9 (fun _ _ => no_false _), by
        have := numsEnc_len [q.2.1, (q.2.2.length : Int)]; have := numsEnc_len q.2.2; simp only [repEnc, List.length_append, List.length_cons, List.length_nil] at *; omega, fun k hk => .inr (by have := owns_block HR8.out k hk; omega)⟩
    have hrl9 := hses.choose_spec.2.2.1
    have HMAP := Lib.hid hmap
    have HENT : Hid (Ents (SesR w9 (grown F n1 w8.heap.size)) x1.sess raw) := Lib.hid hents
    have HSE := Lib.hid hses
    have H9 := Lib.hid h9
    have HM9 := Lib.hid (HM8.out.trans (hm9.mono fun _ _ f => f.elim))
    have HR9 : Hid (SlR w9 encB (.slice Ar (repEnc q.2.1 q.2.2).length cr) (repEnc q.2.1 q.2.2)) := Lib.hid (RowR.mod (RowR.ofOwns HR8.out) hm9 (fun _ _ => no_false _))
    have HRB := Lib.hid (owns_block HR8.out)
    clear hW9 hm9 h9 hmap hents hses b1 b2 g6 HB8 H8 HM8 HR8
    obtain ⟨rep, hrep⟩ : ∃ rep, rep = repEnc q.2.1 q.2.2 := ⟨_, rfl⟩
    rw [← hrep] at HSE HR9 HRB hrl9 ⊢
    have HREP := Lib.hid hrep
    clear hrep
    go_wp2_with (at_mapUpdate; refine wp_mapUpdate keyI Tryz.underlying68 HMAP.out client (.agg #[.int .i64 seq, .slice Ar rep.length cr]) rfl rfl rfl rfl rfl ?_; intro w10 h1 h2; have h10 := H9.out.sesSet HENT.out HSE.out h2 h1; have g5 := cell_of_heap (i := 5) h10.cells; simp only [List.getElem?_toArray, List.getElem?_cons_zero, List.getElem?_cons_succ] at g5; have HM10 := Lib.hid (HM9.out.trans (h2.mono fun i _ h => .inr (.inr h))); have HR10 := Lib.hid (RowR.mod HR9.out h2 (fun j hj e => by have := HRB.out j hj; unfold only at e; omega)); have H10 := Lib.hid h10; have h10sz := h2.size; clear h1 h2 h10)
    have hl8 : ¬ (8 ≤ (q.1.length : Int)) := by omega
    refine (memLen_any _ a.t a.mb q.1 w10 H10.out.tab).mono ?_
    rintro e W ⟨rfl, hW⟩
    rw [hW]
    clear hW W g5
    go_wp2_with fail
    refine (bClone_any _ rep w10 HR10.out (by omega)).mono ?_
    rintro e w11 ⟨v, rfl, hv, hm11, -⟩
    have HV := Lib.hid hv
    have HM11 := Lib.hid hm11
    clear hv hm11
    go_wp2_with fail
    go_ret
    have e1 : ∀ kind, doesSt x kind k text = doesSt x1 kind k text := fun kind => by rw [HX1.out]; rfl
    rw [HDN.out]
    unfold doneSt
    rw [e1, HQ.out, ← HREP.out]
    have hx1 := HX1.out
    subst hx1
    exact ⟨v, rfl, RowR.ofOwns HV.out, fun b hb => by have := (owns_block HV.out b hb).1; have := HM10.out.size; omega, n1, w8.heap.size, H10.out.mod0 HM11.out, by omega, by have := HM11.out.size; have := HM10.out.size; have := H9.out.texts; omega, HM10.out.trans (HM11.out.mono fun _ _ f => f.elim)⟩
end Go.Proofs.YtbloppbiojopaaaGreatDoor
