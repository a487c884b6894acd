/-
  Package wal: file, spell, spellMark, parseMark, replace, Gen, Records, Size, Append, Sync, walked. Conditions: a disk as it may be, texts of sizes that there are.
-/
import Derived.Test.YtjaoiaknglnomaaWm9
import Derived.Test.YtjaoiaknglnomaaWm13
import Derived.BigRegion
import Derived.Deep.DeepCutAuto
set_option linter.unusedVariables false
set_option linter.unusedSimpArgs false
set_option maxRecDepth 100000
namespace Go.Proofs.Ytjaoiaknglnomaa
open Go.RowKit

theorem u64_and1 (a : Nat) (ha : a < 18446744073709551616) : bits .and .u64 (a : Int) 1 = ((a % 2 : Nat) : Int) := by
  have h1 : (BitVec.ofInt 64 (a : Int) &&& BitVec.ofInt 64 1).toNat = a % 2 := by
    rw [BitVec.toNat_and, BitVec.toNat_ofInt]
    have e1 : ((a : Int) % ((2 ^ 64 : Nat) : Int)).toNat = a := by omega
    rw [e1, show (BitVec.ofInt 64 1).toNat = 2 ^ 1 - 1 by decide, Nat.and_two_pow_sub_one_eq_mod]
  show IntKind.u64.wrap ((BitVec.ofInt 64 (a : Int) &&& BitVec.ofInt 64 1).toNat : Nat) = _
  rw [h1, IntKind.wrap_u64]
  omega
theorem wfile_any (g : Nat) (w : World) (hg : g < 18446744073709551616) :
    Calls Try.prog 63 #[.int .u64 g] w fun e w' => e = .returned (.int .i64 ((g % 2 : Nat) : Int)) ∧ w = w' := by
  have h := u64_and1 g hg
  have h2 : g % 2 < 2 := Nat.mod_lt _ (by omega)
  generalize g % 2 = m at *
  go_enter Try.func63, Try.ntmps63
  go_wp2_with fail
  go_ret
  exact ⟨rfl, rfl⟩

set_option maxHeartbeats 2000000 in
theorem wspell_any (v : Nat) (s : List UInt8) (w : World) (hv : v < 18446744073709551616) (hs : s.length ≤ 1000000) :
    Calls Try.prog 66 #[.int .u64 v, .string (txt s)] w fun x w' => x = .returned (.string (txt (spellL v s))) ∧ Upd [] w w' := by
  have hnl := nBytes_le (s.length : Int)
  have hul := uBytes_le v
  have HSP := hd (show spellL v s = frameL 1 (uBytes v ++ (nBytes s.length ++ s)) from rfl)
  have HV := hd hv
  have e2 : ∃ W, (w.alloc (.cells #[.slice none 0 0] 154)).alloc (.cells #[.int .u64 v] 52) = W ∧ Upd [] w W ∧ WrAt w.heap.size W w.heap.size (.slice none 0 0) [] ∧ Blk W (w.heap.size + 1) #[.int .u64 v] 52 ∧ w.heap.size < W.heap.size :=
    ⟨_, rfl, ((Upd.refl _ _).alloc _).alloc _, ⟨(Blk.new _ _ _).alloc _, World.ownsRow_nil _ _ _ _⟩, Blk.new' _ _ _ (by simp), by simp; omega⟩
  clear hv
  go_enter Try.func66, Try.ntmps66
  go_wp2_with fail
  obtain ⟨W, hW, hu, hwr, hb, hlt⟩ := e2
  rw [hW]
  clear hW
  refine (U_any w.heap.size w.heap.size (w.heap.size + 1) [v] _ [] W hwr (by simpa using hb) (by intro x hx; simp at hx; rw [hx]; exact HV.out) (by simp) (by omega)).mono ?_
  rintro x w1 ⟨rfl, v1, hw1, hup1⟩
  have HU1 := hd (show Upd [] w w1 from hu.trans' hup1.upd (fun i hi => by
    rcases List.mem_cons.1 hi with h | h
    · exact .inr (by omega)
    · simp [Value.ownBlock] at h))
  have hw1' : WrAt w.heap.size w1 w.heap.size v1 (uBytes v) := by simpa using hw1
  have HW1 := hd hw1'
  have hs1 := HU1.out.size
  have hlt1 := hw1'.blk.lt
  clear hu hwr hb hw1 hw1' hup1 hlt
  have hst := Blk.new w1 #[.string (txt s)] 9
  have HW2 := hd (show WrAt w.heap.size (w1.alloc (.cells #[.string (txt s)] 9)) w.heap.size v1 (uBytes v) from ⟨HW1.out.blk.alloc _, own_upd (L := []) HW1.out.own ((Upd.refl _ _).alloc _) (by simp)⟩)
  have HU2 := hd (HU1.out.alloc (.cells #[.string (txt s)] 9))
  have HST := hd hst
  clear hst
  go_wp2_with fail
  refine (S_any w.heap.size w.heap.size w1.heap.size [txt s] v1 (uBytes v) _ HW2.out (by simpa using HST.out) (by simp [sBytes_txt]; omega) (by simp; omega)).mono ?_
  rintro x w3 ⟨rfl, v3, hw3, hup3⟩
  have HU3 := hd (show Upd [] w w3 from HU2.out.trans' hup3.upd (fun i hi => by
    rcases List.mem_cons.1 hi with h | h
    · exact .inr (by omega)
    · exact .inr (own_base_le HW1.out.own i (by simpa using h))))
  have hw3' : WrAt w.heap.size w3 w.heap.size v3 (uBytes v ++ (nBytes s.length ++ s)) := by
    have e : [txt s].flatMap sBytes = nBytes s.length ++ s := by simp [sBytes_txt]
    rw [e] at hw3
    exact hw3
  have HW3 := hd hw3'
  clear hw3 hw3' hup3
  have hln : (uBytes v ++ (nBytes s.length ++ s)).length ≤ 1048576 := by simp only [List.length_append]; omega
  generalize uBytes v ++ (nBytes s.length ++ s) = L at *
  go_wp2_with fail
  refine (Text_any w.heap.size w.heap.size v3 L w3 HW3.out).mono ?_
  rintro x w4 ⟨rfl, rfl⟩
  have HF := hd (frame_any L w4 hln)
  rw [show txt L = ⟨L.toArray⟩ from rfl] at HF
  go_wp2_with fail
  refine HF.out.mono ?_
  rintro x w5 ⟨rfl, hu5⟩
  go_wp2_with fail
  go_ret
  rw [HSP.out]
  exact ⟨rfl, HU3.out.trans hu5⟩

/-- A mark's text. -/
def markB (g n : Nat) : List UInt8 := uBytes g ++ nBytes (n : Int)
set_option maxHeartbeats 2000000 in
theorem wspellMark_any (g n : Nat) (w : World) (hg : g < 18446744073709551616) (hn : n ≤ 9223372036854775807) :
    Calls Try.prog 67 #[.int .u64 g, .int .i64 n] w fun x w' => x = .returned (.string (txt (markB g n))) ∧ Upd [] w w' := by
  have hnl := nBytes_le (n : Int)
  have hul := uBytes_le g
  have HV := hd hg
  have HN := hd hn
  have e2 : ∃ W, (w.alloc (.cells #[.slice none 0 0] 154)).alloc (.cells #[.int .u64 g] 52) = W ∧ Upd [] w W ∧ WrAt w.heap.size W w.heap.size (.slice none 0 0) [] ∧ Blk W (w.heap.size + 1) #[.int .u64 g] 52 ∧ w.heap.size < W.heap.size :=
    ⟨_, rfl, ((Upd.refl _ _).alloc _).alloc _, ⟨(Blk.new _ _ _).alloc _, World.ownsRow_nil _ _ _ _⟩, Blk.new' _ _ _ (by simp), by simp; omega⟩
  clear hg hn
  go_enter Try.func67, Try.ntmps67
  go_wp2_with fail
  obtain ⟨W, hW, hu, hwr, hb, hlt⟩ := e2
  rw [hW]
  clear hW
  refine (U_any w.heap.size w.heap.size (w.heap.size + 1) [g] _ [] W hwr (by simpa using hb) (by intro x hx; simp at hx; rw [hx]; exact HV.out) (by simp) (by omega)).mono ?_
  rintro x w1 ⟨rfl, v1, hw1, hup1⟩
  have HU1 := hd (show Upd [] w w1 from hu.trans' hup1.upd (fun i hi => by
    rcases List.mem_cons.1 hi with h | h
    · exact .inr (by omega)
    · simp [Value.ownBlock] at h))
  have hw1' : WrAt w.heap.size w1 w.heap.size v1 (uBytes g) := by simpa using hw1
  have HW1 := hd hw1'
  have hs1 := HU1.out.size
  have hlt1 := hw1'.blk.lt
  clear hu hwr hb hw1 hw1' hup1 hlt
  have hst := Blk.new w1 #[.int .i64 n] 3
  have HW2 := hd (show WrAt w.heap.size (w1.alloc (.cells #[.int .i64 n] 3)) w.heap.size v1 (uBytes g) from ⟨HW1.out.blk.alloc _, own_upd (L := []) HW1.out.own ((Upd.refl _ _).alloc _) (by simp)⟩)
  have HU2 := hd (HU1.out.alloc (.cells #[.int .i64 n] 3))
  have HST := hd hst
  clear hst
  go_wp2_with fail
  refine (N_any w.heap.size w.heap.size w1.heap.size [(n : Int)] v1 (uBytes g) _ HW2.out (by simpa using HST.out) (by intro x hx; simp at hx; have := HN.out; omega) (by simp; omega) (by simp; omega)).mono ?_
  rintro x w3 ⟨rfl, v3, hw3, hup3⟩
  have HU3 := hd (show Upd [] w w3 from HU2.out.trans' hup3.upd (fun i hi => by
    rcases List.mem_cons.1 hi with h | h
    · exact .inr (by omega)
    · exact .inr (own_base_le HW1.out.own i (by simpa using h))))
  have HW3 := hd (show WrAt w.heap.size w3 w.heap.size v3 (markB g n) by simpa [markB] using hw3)
  clear hw3 hup3
  go_wp2_with fail
  refine (Text_any w.heap.size w.heap.size v3 (markB g n) w3 HW3.out).mono ?_
  rintro x w4 ⟨rfl, rfl⟩
  go_wp2_with fail
  go_ret
  exact ⟨rfl, HU3.out⟩

/-- What a mark's text says. -/
def markL (s : List UInt8) : Nat × Int × Bool :=
  if s = [] then (0, 0, true) else ((RdS.U ⟨s, 0⟩).1, ((RdS.U ⟨s, 0⟩).2.N 1099511627776).1, decide (((RdS.U ⟨s, 0⟩).2.N 1099511627776).2.done.err = 0))
theorem mark_back (g n : Nat) (hg : g < 18446744073709551616) (hn : n ≤ 1099511627776) : markL (markB g n) = (g, (n : Int), true) := by
  have hne : markB g n ≠ [] := by simp [markB, uBytes]
  have hN : RdS.N ⟨nBytes (n : Int), 0⟩ 1099511627776 = ((n : Int), ⟨[], 0⟩) := by
    have := N_nBytes n 1099511627776 (by omega) (by omega) []
    rwa [List.append_nil] at this
  unfold markL
  rw [if_neg hne]
  unfold markB
  rw [U_uBytes g hg]
  simp only
  rw [hN]
  simp [RdS.done]

set_option maxHeartbeats 4000000 in
theorem wparseMark_any (s : List UInt8) (w : World) (hs : s.length ≤ 1099511627776) :
    Calls Try.prog 62 #[.string (txt s)] w fun x w' => x = .returned (.tuple #[.int .u64 ((markL s).1 : Int), .int .i64 (markL s).2.1, .bool (markL s).2.2]) ∧ Upd [] w w' := by
  by_cases h0 : s = []
  · have ht : (txt s).toList = [] := by rw [txt_list]; exact h0
    have HX := hd (show markL s = (0, 0, true) from if_pos h0)
    clear h0
    go_enter Try.func62, Try.ntmps62
    go_wp2_with fail
    go_ret3
    rw [HX.out]
    exact ⟨rfl, Upd.refl _ _⟩
  · have ht : ¬ (txt s).toList = [] := by rw [txt_list]; exact h0
    have hte : (txt s).toList.isEmpty = false := by simpa using ht
    have HX := hd (show markL s = ((RdS.U ⟨s, 0⟩).1, ((RdS.U ⟨s, 0⟩).2.N 1099511627776).1, decide (((RdS.U ⟨s, 0⟩).2.N 1099511627776).2.done.err = 0)) from if_neg h0)
    have hul := U_left ⟨s, 0⟩
    simp only at hul
    have HU := hd (fun k W (h : RdAt W k ⟨s, 0⟩) => U_rd ⟨s, 0⟩ k W h hs)
    have HN := hd (fun k W (h : RdAt W k (RdS.U ⟨s, 0⟩).2) => N_rd (RdS.U ⟨s, 0⟩).2 1099511627776 k W h (by omega) (by decide) (by decide))
    have HD := hd (fun k W (h : RdAt W k ((RdS.U ⟨s, 0⟩).2.N 1099511627776).2) => done_rd ((RdS.U ⟨s, 0⟩).2.N 1099511627776).2 k W h)
    clear h0 hul
    generalize ((RdS.U ⟨s, 0⟩).2.N 1099511627776).2.done = DN at *
    generalize (RdS.U ⟨s, 0⟩).2.N 1099511627776 = N at *
    generalize RdS.U ⟨s, 0⟩ = U at *
    obtain ⟨uv, r2⟩ := U
    obtain ⟨nv, r3⟩ := N
    simp only at HX HU HN HD
    go_enter Try.func62, Try.ntmps62
    go_wp2_with fail
    refine (read_new s w).mono ?_
    rintro x w1 ⟨rfl, hu1, hr1, hlt1⟩
    obtain ⟨k, hk⟩ : ∃ k, k = w.heap.size := ⟨_, rfl⟩
    rw [← hk] at hr1 hlt1 ⊢
    have hkl : w.heap.size ≤ k := by omega
    have HU1 := hd hu1
    have HR1 := hd hr1
    clear hu1 hr1 hk hlt1
    go_wp2_with fail
    refine (HU.out k w1 HR1.out).mono ?_
    rintro x w2 ⟨rfl, hu2, hr2⟩
    have HU2 := hd (HU1.out.trans' hu2 (by intro i hi; simp at hi; omega))
    have HR2 := hd hr2
    clear hu2 hr2
    go_wp2_with fail
    refine (HN.out k w2 HR2.out).mono ?_
    rintro x w3 ⟨rfl, hu3, hr3⟩
    have HU3 := hd (HU2.out.trans' hu3 (by intro i hi; simp at hi; omega))
    have HR3 := hd hr3
    clear hu3 hr3
    go_wp2_with fail
    refine (HD.out k w3 HR3.out).mono ?_
    rintro x w4 ⟨rfl, hu4, hr4⟩
    have HU4 := hd (HU3.out.trans' hu4 (by intro i hi; simp at hi; omega))
    clear hu4 hr4
    by_cases he : DN.err = 0
    · have he' : (DN.err == 0) = true := by simp [he]
      have HDD := hd (show decide (DN.err = 0) = true by simp [he])
      clear he
      go_wp2_with fail
      go_ret3
      rw [HX.out, HDD.out]
      exact ⟨rfl, HU4.out⟩
    · have he' : (DN.err == 0) = false := by simpa using he
      have HDD := hd (show decide (DN.err = 0) = false by simpa using he)
      clear he
      go_wp2_with fail
      go_ret3
      rw [HX.out, HDD.out]
      exact ⟨rfl, HU4.out⟩

/-- A log. -/
structure LogS where
  gen : Nat
  size : Nat
  recs : Nat
  loose : Bool
abbrev LogAt (w : World) (kl kc bd : Nat) (l : LogS) : Prop := Blk w kl #[.pointer (some ⟨bd, 0, none⟩), .pointer (some ⟨kc, 0, none⟩), .int .u64 l.gen, .int .i64 l.size, .int .i64 l.recs, .bool l.loose] 118

theorem wgen_any (kl kc bd : Nat) (l : LogS) (w : World) (h : LogAt w kl kc bd l) : Calls Try.prog 41 #[.pointer (some ⟨kl, 0, none⟩)] w fun x w' => x = .returned (.int .u64 l.gen) ∧ w = w' := by
  have hc := h.cell
  clear h
  go_enter Try.func41, Try.ntmps41
  go_wp2_with fail
  go_ret
  exact ⟨rfl, rfl⟩
theorem wrecs_any (kl kc bd : Nat) (l : LogS) (w : World) (h : LogAt w kl kc bd l) : Calls Try.prog 46 #[.pointer (some ⟨kl, 0, none⟩)] w fun x w' => x = .returned (.int .i64 l.recs) ∧ w = w' := by
  have hc := h.cell
  clear h
  go_enter Try.func46, Try.ntmps46
  go_wp2_with fail
  go_ret
  exact ⟨rfl, rfl⟩
theorem wsize_any (kl kc bd : Nat) (l : LogS) (w : World) (h : LogAt w kl kc bd l) : Calls Try.prog 47 #[.pointer (some ⟨kl, 0, none⟩)] w fun x w' => x = .returned (.int .i64 l.size) ∧ w = w' := by
  have hc := h.cell
  clear h
  go_enter Try.func47, Try.ntmps47
  go_wp2_with fail
  go_ret
  exact ⟨rfl, rfl⟩

/-- What replace answers, and leaves. -/
def DiskS.replaceIt (d : DiskS) (f : Int) (s : ByteArray) : Int × DiskS := if (d.putIt f s).1 = 0 then (d.putIt f s).2.syncIt f else d.putIt f s
theorem wreplace_any (d : DiskS) (f : Int) (s : ByteArray) (kl kc bd : Nat) (l : LogS) (w : World) (hd' : DiskAt w bd d) (h : LogAt w kl kc bd l) (hf : d.fine) (hs : s.size ≤ 1099511627776) :
    Calls Try.prog 86 #[.pointer (some ⟨kl, 0, none⟩), .int .i64 f, .string s] w fun x w' => x = .returned (.int .i64 (d.replaceIt f s).1) ∧ Upd [bd] w w' ∧ DiskAt w' bd (d.replaceIt f s).2 := by
  have hne : kl ≠ bd := blk_ne h hd' (by decide)
  have HX := hd (show d.replaceIt f s = if (d.putIt f s).1 = 0 then (d.putIt f s).2.syncIt f else d.putIt f s from rfl)
  have HP := hd (put_any d f s w bd hd' hf hs)
  have HF := hd (put_fine d f s hf hs)
  have hc := h.cell
  have H := hd h
  clear h hd'
  generalize d.putIt f s = r at *
  obtain ⟨e, D⟩ := r
  simp only at HX HP HF
  go_enter Try.func86, Try.ntmps86
  go_wp2_with fail
  refine HP.out.mono ?_
  rintro x w1 ⟨rfl, hu1, hd1⟩
  have HU1 := hd hu1
  have HD1 := hd hd1
  have h1 := H.out.upd hu1 (by simpa using hne)
  clear hc hu1 hd1
  have hc := h1.cell
  by_cases he : e = 0
  · have he' : (e != 0) = false := by simp [he]
    have HY := hd (HX.out.trans (if_pos he))
    clear he h1
    go_wp2_with fail
    refine (sync_any D f w1 bd HD1.out HF.out).mono ?_
    rintro x w2 ⟨rfl, hu2, hd2⟩
    go_wp2_with fail
    go_ret
    rw [HY.out]
    exact ⟨rfl, HU1.out.trans hu2, hd2⟩
  · have he' : (e != 0) = true := by simpa using he
    have HY := hd (HX.out.trans (if_neg he))
    clear he h1
    go_wp2_with fail
    go_ret
    rw [HY.out]
    exact ⟨rfl, HU1.out, HD1.out⟩
end Go.Proofs.Ytjaoiaknglnomaa

/-
  wal.Log's Append and Sync, walked. Conditions: a disk as it may be, texts of sizes that there are.
-/
set_option linter.unusedVariables false
set_option linter.unusedSimpArgs false
set_option maxRecDepth 100000
namespace Go.Proofs.Ytjaoiaknglnomaa
open Go.RowKit

/-- What Append answers, and leaves. -/
def walAppend (d : DiskS) (l : LogS) (s : List UInt8) : Int × DiskS × LogS :=
  if 262144 < s.length then (6, d, l)
  else if (d.appendIt ((l.gen % 2 : Nat) : Int) (txt (spellL l.gen s))).1 = 0 then (0, (d.appendIt ((l.gen % 2 : Nat) : Int) (txt (spellL l.gen s))).2, { l with size := l.size + (spellL l.gen s).length, recs := l.recs + 1, loose := true })
  else ((d.appendIt ((l.gen % 2 : Nat) : Int) (txt (spellL l.gen s))).1, (d.appendIt ((l.gen % 2 : Nat) : Int) (txt (spellL l.gen s))).2, l)

set_option maxHeartbeats 4000000 in
theorem wappend_any (d : DiskS) (l : LogS) (s : List UInt8) (kl kc bd : Nat) (w : World) (hd' : DiskAt w bd d) (h : LogAt w kl kc bd l) (hf : d.fine) (hg : l.gen < 18446744073709551616) (hs : s.length ≤ 1099511627776)
    (hn : (d.get (l.gen % 2)).now.size ≤ 1099510000000) (hz : l.size ≤ 1099511627776) (hr : l.recs ≤ 1099511627776) :
    Calls Try.prog 36 #[.pointer (some ⟨kl, 0, none⟩), .string (txt s)] w fun x w' => x = .returned (.int .i64 (walAppend d l s).1) ∧ Upd [bd, kl] w w' ∧ DiskAt w' bd (walAppend d l s).2.1 ∧ LogAt w' kl kc bd (walAppend d l s).2.2 := by
  have hne : kl ≠ bd := blk_ne h hd' (by decide)
  have hbl := hd'.lt
  have hkl := h.lt
  have HX := hd (show walAppend d l s = if 262144 < s.length then (6, d, l) else if (d.appendIt ((l.gen % 2 : Nat) : Int) (txt (spellL l.gen s))).1 = 0 then (0, (d.appendIt ((l.gen % 2 : Nat) : Int) (txt (spellL l.gen s))).2, { l with size := l.size + (spellL l.gen s).length, recs := l.recs + 1, loose := true })
    else ((d.appendIt ((l.gen % 2 : Nat) : Int) (txt (spellL l.gen s))).1, (d.appendIt ((l.gen % 2 : Nat) : Int) (txt (spellL l.gen s))).2, l) from rfl)
  have hc := h.cell
  have H := hd h
  have HD := hd hd'
  clear h hd'
  by_cases hb : 262144 < s.length
  · have hb' : (262144 : Int) < (s.length : Int) := by omega
    have HY := hd (HX.out.trans (if_pos hb))
    clear hb
    go_enter Try.func36, Try.ntmps36
    go_wp2_with fail
    go_ret
    rw [HY.out]
    exact ⟨rfl, Upd.refl _ _, HD.out, H.out⟩
  · have hb' : ¬ (262144 : Int) < (s.length : Int) := by omega
    have HY := hd (HX.out.trans (if_neg hb))
    have hsl := spellL_len l.gen s (by omega)
    have hg2 : l.gen % 2 < 2 := Nat.mod_lt _ (by omega)
    have HSP := hd (fun W => wspell_any l.gen s W hg (by omega))
    have HWF := hd (fun W => wfile_any l.gen W hg)
    have HAP := hd (fun W (hD : DiskAt W bd d) => append_any d ((l.gen % 2 : Nat) : Int) (txt (spellL l.gen s)) W bd hD hf (by rw [Int.toNat_natCast, txt_size]; omega))
    clear hb HX hn
    generalize l.gen % 2 = m at *
    generalize spellL l.gen s = F at *
    generalize d.appendIt (m : Int) (txt F) = r at *
    obtain ⟨e, D⟩ := r
    simp only at HY HAP
    go_enter Try.func36, Try.ntmps36
    go_wp2_with fail
    refine (HSP.out w).mono ?_
    rintro x w1 ⟨rfl, hu1⟩
    have HD1 := hd (HD.out.upd hu1 (by simp))
    have H1 := hd (H.out.upd hu1 (by simp))
    have HU1 := hd hu1
    have hs1 := hu1.size
    clear hc hu1
    have hc := H1.out.cell
    go_upto_region 4 with fail
    go_cut [6] (fun s6 wx => s6 = .int .i64 e ∧ Upd [bd] w wx ∧ DiskAt wx bd D ∧ LogAt wx kl kc bd l)
    case first =>
      go_region_with (first
        | ((with_reducible refine (HWF.out _).mono ?_); rintro x w2 ⟨rfl, rfl⟩)
        | ((with_reducible refine (HAP.out _ (by first | with_reducible exact HD1.out | with_reducible exact HD1.out.drew)).mono ?_); rintro x w2 ⟨rfl, hu2, hd2⟩))
      all_goals
        go_wp2_with fail
        go_meet
        case rel =>
          first
          | exact ⟨rfl, (HU1.out.mono (by simp)).trans hu2, hd2, H1.out.upd hu2 (by simpa using hne)⟩
          | exact ⟨rfl, (HU1.out.mono (by simp)).drew.trans hu2, hd2, H1.out.drew.upd hu2 (by simpa using hne)⟩
          | exact ⟨rfl, ((HU1.out.mono (by simp)).trans hu2).drew, hd2.drew, (H1.out.upd hu2 (by simpa using hne)).drew⟩
    case rest =>
      obtain ⟨rfl, hu, hD, hL⟩ := hcut
      have HU2 := hd hu
      have HD2 := hd hD
      have HL2 := hd hL
      clear hc hu hD hL HD1 H1 HU1
      by_cases he : e = 0
      · have he' : (e != 0) = false := by simp [he]
        have HZ := hd (HY.out.trans (if_pos he))
        clear he
        have hc := HL2.out.cell
        have hz := HL2.out.frozen
        have hwz : IntKind.i64.wrap ((l.size : Int) + (F.length : Int)) = ((l.size + F.length : Nat) : Int) := by rw [IntKind.wrap_i64]; omega
        have hwr : IntKind.i64.wrap ((l.recs : Int) + 1) = ((l.recs + 1 : Nat) : Int) := by rw [IntKind.wrap_i64]; omega
        have e3 : ∃ W3, wc.setCell ⟨kl, 3, none⟩ (.int .i64 ((l.size + F.length : Nat) : Int)) = W3 ∧ Upd [bd, kl] w W3 ∧ DiskAt W3 bd D ∧ Blk W3 kl #[.pointer (some ⟨bd, 0, none⟩), .pointer (some ⟨kc, 0, none⟩), .int .u64 l.gen, .int .i64 ((l.size + F.length : Nat) : Int), .int .i64 l.recs, .bool l.loose] 118 :=
          ⟨_, rfl, (HU2.out.mono (by simp)).setCell (by simp) _, HD2.out.set_other (by simpa using Ne.symm hne) _, HL2.out.set 3 _⟩
        go_upto_region 8 with fail
        obtain ⟨W3, hW3, hu3, hd3, hl3⟩ := e3
        have hW3' : wc.setCell ⟨kl, 3, none⟩ (.int .i64 ((l.size : Int) + (F.length : Int))) = W3 := by rw [← hW3]; congr 2
        rw [hW3']
        have e4 : ∃ W4, W3.setCell ⟨kl, 4, none⟩ (.int .i64 ((l.recs + 1 : Nat) : Int)) = W4 ∧ Upd [bd, kl] w W4 ∧ DiskAt W4 bd D ∧ Blk W4 kl #[.pointer (some ⟨bd, 0, none⟩), .pointer (some ⟨kc, 0, none⟩), .int .u64 l.gen, .int .i64 ((l.size + F.length : Nat) : Int), .int .i64 ((l.recs + 1 : Nat) : Int), .bool l.loose] 118 :=
          ⟨_, rfl, hu3.setCell (by simp) _, hd3.set_other (by simpa using Ne.symm hne) _, hl3.set 4 _⟩
        clear hc hz hW3 hW3'
        have hc := hl3.cell
        have hz := hl3.frozen
        clear hl3 hu3 hd3
        go_upto_region 9 with fail
        obtain ⟨W4, hW4, hu4, hd4, hl4⟩ := e4
        have hW4' : W3.setCell ⟨kl, 4, none⟩ (.int .i64 ((l.recs : Int) + 1)) = W4 := by rw [← hW4]; congr 2
        rw [hW4']
        clear hc hz hW4 hW4'
        have hc := hl4.cell
        have hz := hl4.frozen
        have HL4 := hd hl4
        have HD4 := hd hd4
        have HU4 := hd hu4
        clear hl4 hd4 hu4
        go_wp2_with fail
        go_ret
        rw [HZ.out]
        exact ⟨rfl, HU4.out.setCell (by simp) _, HD4.out.set_other (by simpa using Ne.symm hne) _, HL4.out.set 5 _⟩
      · have he' : (e != 0) = true := by simpa using he
        have HZ := hd (HY.out.trans (if_neg he))
        clear he
        go_wp2_with fail
        go_ret
        rw [HZ.out]
        exact ⟨rfl, HU2.out.mono (by simp), HD2.out, HL2.out⟩

/-- What Sync answers, and leaves: the disk, the log, the mark's version. -/
def walSync (d : DiskS) (l : LogS) (ver : Nat) : Int × DiskS × LogS × Nat :=
  if l.loose = false then (0, d, l, ver)
  else if (d.syncIt ((l.gen % 2 : Nat) : Int)).1 = 0 then
    if ((d.syncIt ((l.gen % 2 : Nat) : Int)).2.writeIt 2 ver (markB l.gen l.size)).1 = 0 then (0, ((d.syncIt ((l.gen % 2 : Nat) : Int)).2.writeIt 2 ver (markB l.gen l.size)).2.1, { l with loose := false }, ((d.syncIt ((l.gen % 2 : Nat) : Int)).2.writeIt 2 ver (markB l.gen l.size)).2.2)
    else (((d.syncIt ((l.gen % 2 : Nat) : Int)).2.writeIt 2 ver (markB l.gen l.size)).1, ((d.syncIt ((l.gen % 2 : Nat) : Int)).2.writeIt 2 ver (markB l.gen l.size)).2.1, l, ((d.syncIt ((l.gen % 2 : Nat) : Int)).2.writeIt 2 ver (markB l.gen l.size)).2.2)
  else ((d.syncIt ((l.gen % 2 : Nat) : Int)).1, (d.syncIt ((l.gen % 2 : Nat) : Int)).2, l, ver)
theorem markB_le (g n : Nat) : (markB g n).length ≤ 18 := by
  have h1 := uBytes_le g
  have h2 := nBytes_le (n : Int)
  simp only [markB, List.length_append]
  omega

set_option maxHeartbeats 4000000 in
theorem wsync_any (d : DiskS) (l : LogS) (ver : Nat) (kl kc bd : Nat) (w : World) (hd' : DiskAt w bd d) (h : LogAt w kl kc bd l) (hC : CellAt w kc bd 2 ver) (hf : d.fine) (hg : l.gen < 18446744073709551616) (hz : l.size ≤ 1099511627776) (hv : ver < 1099511627776) :
    Calls Try.prog 37 #[.pointer (some ⟨kl, 0, none⟩)] w fun x w' => x = .returned (.int .i64 (walSync d l ver).1) ∧ Upd [bd, kl, kc] w w' ∧ DiskAt w' bd (walSync d l ver).2.1 ∧ LogAt w' kl kc bd (walSync d l ver).2.2.1 ∧ CellAt w' kc bd 2 (walSync d l ver).2.2.2 := by
  have hne : kl ≠ bd := blk_ne h hd' (by decide)
  have hne2 : kc ≠ bd := blk_ne hC hd' (by decide)
  have hne3 : kl ≠ kc := blk_ne h hC (by decide)
  have hbl := hd'.lt
  have hkl := h.lt
  have hcl := hC.lt
  have HX := hd (show walSync d l ver = if l.loose = false then (0, d, l, ver)
  else if (d.syncIt ((l.gen % 2 : Nat) : Int)).1 = 0 then
    if ((d.syncIt ((l.gen % 2 : Nat) : Int)).2.writeIt 2 ver (markB l.gen l.size)).1 = 0 then (0, ((d.syncIt ((l.gen % 2 : Nat) : Int)).2.writeIt 2 ver (markB l.gen l.size)).2.1, { l with loose := false }, ((d.syncIt ((l.gen % 2 : Nat) : Int)).2.writeIt 2 ver (markB l.gen l.size)).2.2)
    else (((d.syncIt ((l.gen % 2 : Nat) : Int)).2.writeIt 2 ver (markB l.gen l.size)).1, ((d.syncIt ((l.gen % 2 : Nat) : Int)).2.writeIt 2 ver (markB l.gen l.size)).2.1, l, ((d.syncIt ((l.gen % 2 : Nat) : Int)).2.writeIt 2 ver (markB l.gen l.size)).2.2)
  else ((d.syncIt ((l.gen % 2 : Nat) : Int)).1, (d.syncIt ((l.gen % 2 : Nat) : Int)).2, l, ver) from rfl)
  have hml := markB_le l.gen l.size
  have HWF := hd (fun W => wfile_any l.gen W hg)
  have HMK := hd (fun W => wspellMark_any l.gen l.size W hg (by omega))
  have HSY := hd (fun W (hD : DiskAt W bd d) => sync_any d ((l.gen % 2 : Nat) : Int) W bd hD hf)
  have hsf := sync_fine d ((l.gen % 2 : Nat) : Int) hf
  generalize markB l.gen l.size = M at *
  have hg2 : l.gen % 2 < 2 := Nat.mod_lt _ (by omega)
  generalize l.gen % 2 = m at *
  generalize d.syncIt (m : Int) = r at *
  obtain ⟨e, D⟩ := r
  simp only at HX HSY hsf
  have HWR := hd (fun W (h1 : DiskAt W bd D) (h2 : CellAt W kc bd 2 ver) => cwrite_any D 2 ver M kc bd W h1 h2 hsf (by decide) (by decide) hv (by omega))
  clear hsf hml
  generalize D.writeIt 2 ver M = r2 at *
  obtain ⟨e2, D2, v2⟩ := r2
  simp only at HX HWR
  have hc := h.cell
  have H := hd h
  have HD := hd hd'
  have HC := hd hC
  clear h hd' hC
  obtain ⟨gen, size, recs, loose⟩ := l
  simp only at *
  rcases loose with _ | _
  · have HY := hd (HX.out.trans (if_pos rfl))
    go_enter Try.func37, Try.ntmps37
    go_wp2_with fail
    go_ret
    rw [HY.out]
    exact ⟨rfl, Upd.refl _ _, HD.out, H.out, HC.out⟩
  · have HY := hd (HX.out.trans (if_neg (by simp)))
    clear HX
    go_enter Try.func37, Try.ntmps37
    go_upto_region 3 with fail
    go_cut [3] (fun s3 wx => s3 = .int .i64 e ∧ Upd [bd] w wx ∧ DiskAt wx bd D)
    case first =>
      go_region_with (first
        | ((with_reducible refine (HWF.out _).mono ?_); rintro x w2 ⟨rfl, rfl⟩)
        | ((with_reducible refine (HSY.out _ (by first | with_reducible exact HD.out | with_reducible exact HD.out.drew)).mono ?_); rintro x w2 ⟨rfl, hu2, hd2⟩))
      all_goals
        go_wp2_with fail
        go_meet
        case rel =>
          first
          | exact ⟨rfl, hu2, hd2⟩
          | exact ⟨rfl, (Upd.refl _ _).drew.trans hu2, hd2⟩
          | exact ⟨rfl, hu2.drew, hd2.drew⟩
    case rest =>
      obtain ⟨rfl, hu, hD⟩ := hcut
      have HU2 := hd hu
      have HD2 := hd hD
      have HL2 := hd (H.out.upd hu (by simpa using hne))
      have HC2 := hd (HC.out.upd hu (by simpa using hne2))
      clear hc hu hD
      by_cases he : e = 0
      · have he' : (e != 0) = false := by simp [he]
        have HZ := hd (HY.out.trans (if_pos he))
        clear he
        have hc := HL2.out.cell
        go_upto_region 6 with fail
        go_cut [4] (fun s4 wx => s4 = .int .i64 e2 ∧ Upd [bd, kl, kc] w wx ∧ DiskAt wx bd D2 ∧ LogAt wx kl kc bd ⟨gen, size, recs, true⟩ ∧ CellAt wx kc bd 2 v2)
        case first =>
          have HKS := hd (show ∀ W, LogAt W kl kc bd ⟨gen, size, recs, true⟩ → ∀ o, W.cell? ⟨kl, o, none⟩ = #[.pointer (some ⟨bd, 0, none⟩), .pointer (some ⟨kc, 0, none⟩), .int .u64 gen, .int .i64 size, .int .i64 recs, .bool true][o]? from fun W h => h.cell)
          go_region_held3 (fun W => ∀ o, W.cell? ⟨kl, o, none⟩ = #[.pointer (some ⟨bd, 0, none⟩), .pointer (some ⟨kc, 0, none⟩), .int .u64 gen, .int .i64 size, .int .i64 recs, .bool true][o]?)
            ((refine HKS.out _ ?_; first | with_reducible exact HL2.out | with_reducible exact HL2.out.drew | with_reducible exact Hl3.out | with_reducible exact Hl2.out))
            (first
            | ((with_reducible refine (HMK.out wc).mono ?_); rintro x w2 ⟨rfl, hu2⟩; have Hd2 := hd (Blk.upd HD2.out hu2 (by simp)); have Hc2 := hd (Blk.upd HC2.out hu2 (by simp)); have Hl2 := hd (Blk.upd HL2.out hu2 (by simp)))
            | ((with_reducible refine (HMK.out wc.drew).mono ?_); rintro x w2 ⟨rfl, hu2⟩; have Hd2 := hd (Blk.upd HD2.out.drew hu2 (by simp)); have Hc2 := hd (Blk.upd HC2.out.drew hu2 (by simp)); have Hl2 := hd (Blk.upd HL2.out.drew hu2 (by simp)))
            | ((with_reducible refine (HWR.out _ Hd2.out Hc2.out).mono ?_); rintro x w3 ⟨rfl, hu3, hd3, hc3⟩; have Hl3 := hd (Blk.upd Hl2.out hu3 (by simp [hne, hne3]))))
          all_goals
            go_wp2_with fail
            go_meet
            case rel =>
              first
              | exact ⟨rfl, ((HU2.out.mono (by simp)).trans (hu2.mono (by simp))).trans (hu3.mono (by simp)), hd3, (HL2.out.upd hu2 (by simp)).upd hu3 (by simp [hne, hne3]), hc3⟩
              | exact ⟨rfl, ((HU2.out.mono (by simp)).drew.trans (hu2.mono (by simp))).trans (hu3.mono (by simp)), hd3, (HL2.out.drew.upd hu2 (by simp)).upd hu3 (by simp [hne, hne3]), hc3⟩
        case rest =>
          obtain ⟨rfl, hu, hD, hL, hC⟩ := hcut
          have HU3 := hd hu
          have HD3 := hd hD
          have HL3 := hd hL
          have HC3 := hd hC
          clear hc hu hD hL hC
          by_cases he2 : e2 = 0
          · have he2' : (e2 != 0) = false := by simp [he2]
            have HZ2 := hd (HZ.out.trans (if_pos he2))
            clear he2
            have hc := HL3.out.cell
            have hz := HL3.out.frozen
            go_wp2_with fail
            go_ret
            rw [HZ2.out]
            exact ⟨rfl, HU3.out.setCell (by simp) _, HD3.out.set_other (by simpa using Ne.symm hne) _, HL3.out.set 5 _, HC3.out.set_other (by simpa using Ne.symm hne3) _⟩
          · have he2' : (e2 != 0) = true := by simpa using he2
            have HZ2 := hd (HZ.out.trans (if_neg he2))
            clear he2
            go_wp2_with fail
            go_ret
            rw [HZ2.out]
            exact ⟨rfl, HU3.out, HD3.out, HL3.out, HC3.out⟩
      · have he' : (e != 0) = true := by simpa using he
        have HZ := hd (HY.out.trans (if_neg he))
        clear he
        go_wp2_with fail
        go_ret
        rw [HZ.out]
        exact ⟨rfl, HU2.out.mono (by simp), HD2.out, HL2.out, HC2.out⟩
end Go.Proofs.Ytjaoiaknglnomaa
