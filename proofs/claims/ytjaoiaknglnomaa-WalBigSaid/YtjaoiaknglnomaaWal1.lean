/-
  Package wal: file, spell, spellMark, parseMark, replace, Gen, Records, Size, Append, Sync, walked. Conditions: a disk as it may be, texts of sizes that there are.
-/
import Derived.Test.YtjaoiaknglnomaaTwin5
import Derived.Test.YtjaoiaknglnomaaRef12b
import Derived.BigRegion
import Derived.Deep.DeepCutAuto
set_option linter.unusedVariables false
set_option linter.unusedSimpArgs false
set_option maxRecDepth 100000
namespace Go.Proofs.Ytjaoiaknglnomaa
open Go.RowKit

theorem u64_and1 (a : Nat) (ha : a < 18446744073709551616) : bits .and .u64 (a : Int) 1 = ((a % 2 : Nat) : Int) := by
  have h1 : (BitVec.ofInt 64 (a : Int) &&& BitVec.ofInt 64 1).toNat = a % 2 := by
    rw [BitVec.toNat_and, BitVec.toNat_ofInt]
    have e1 : ((a : Int) % ((2 ^ 64 : Nat) : Int)).toNat = a := by omega
    rw [e1, show (BitVec.ofInt 64 1).toNat = 2 ^ 1 - 1 by decide, Nat.and_two_pow_sub_one_eq_mod]
  show IntKind.u64.wrap ((BitVec.ofInt 64 (a : Int) &&& BitVec.ofInt 64 1).toNat : Nat) = _
  rw [h1, IntKind.wrap_u64]
  omega
theorem wfile_any (g : Nat) (w : World) (hg : g < 18446744073709551616) :
    Calls Try.prog 63 #[.int .u64 g] w fun e w' => e = .returned (.int .i64 ((g % 2 : Nat) : Int)) ∧ w = w' := by
  have h := u64_and1 g hg
  have h2 : g % 2 < 2 := Nat.mod_lt _ (by omega)
  generalize g % 2 = m at *
  go_enter Try.func63, Try.ntmps63
  go_wp2_with fail
  go_ret
  exact ⟨rfl, rfl⟩

set_option maxHeartbeats 2000000 in
theorem wspell_any (v : Nat) (s : List UInt8) (w : World) (hv : v < 18446744073709551616) (hs : s.length ≤ 1000000) :
    Calls Try.prog 66 #[.int .u64 v, .string (txt s)] w fun x w' => x = .returned (.string (txt (spellL v s))) ∧ Upd [] w w' := by
  have hnl := nBytes_le (s.length : Int)
  have hul := uBytes_le v
  have HSP := hd (show spellL v s = frameL 1 (uBytes v ++ (nBytes s.length ++ s)) from rfl)
  have HV := hd hv
  have e2 : ∃ W, (w.alloc (.cells #[.slice none 0 0] 154)).alloc (.cells #[.int .u64 v] 52) = W ∧ Upd [] w W ∧ WrAt w.heap.size W w.heap.size (.slice none 0 0) [] ∧ Blk W (w.heap.size + 1) #[.int .u64 v] 52 ∧ w.heap.size < W.heap.size :=
    ⟨_, rfl, ((Upd.refl _ _).alloc _).alloc _, ⟨(Blk.new _ _ _).alloc _, World.ownsRow_nil _ _ _ _⟩, Blk.new' _ _ _ (by simp), by simp; omega⟩
  clear hv
  go_enter Try.func66, Try.ntmps66
  go_wp2_with fail
  obtain ⟨W, hW, hu, hwr, hb, hlt⟩ := e2
  rw [hW]
  clear hW
  refine (U_any w.heap.size w.heap.size (w.heap.size + 1) [v] _ [] W hwr (by simpa using hb) (by intro x hx; simp at hx; rw [hx]; exact HV.out) (by simp) (by omega)).mono ?_
  rintro x w1 ⟨rfl, v1, hw1, hup1⟩
  have HU1 := hd (show Upd [] w w1 from hu.trans' hup1.upd (fun i hi => by
    rcases List.mem_cons.1 hi with h | h
    · exact .inr (by omega)
    · simp [Value.ownBlock] at h))
  have hw1' : WrAt w.heap.size w1 w.heap.size v1 (uBytes v) := by simpa using hw1
  have HW1 := hd hw1'
  have hs1 := HU1.out.size
  have hlt1 := hw1'.blk.lt
  clear hu hwr hb hw1 hw1' hup1 hlt
  have hst := Blk.new w1 #[.string (txt s)] 9
  have HW2 := hd (show WrAt w.heap.size (w1.alloc (.cells #[.string (txt s)] 9)) w.heap.size v1 (uBytes v) from ⟨HW1.out.blk.alloc _, own_upd (L := []) HW1.out.own ((Upd.refl _ _).alloc _) (by simp)⟩)
  have HU2 := hd (HU1.out.alloc (.cells #[.string (txt s)] 9))
  have HST := hd hst
  clear hst
  go_wp2_with fail
  refine (S_any w.heap.size w.heap.size w1.heap.size [txt s] v1 (uBytes v) _ HW2.out (by simpa using HST.out) (by simp [sBytes_txt]; omega) (by simp; omega)).mono ?_
  rintro x w3 ⟨rfl, v3, hw3, hup3⟩
  have HU3 := hd (show Upd [] w w3 from HU2.out.trans' hup3.upd (fun i hi => by
    rcases List.mem_cons.1 hi with h | h
    · exact .inr (by omega)
    · exact .inr (own_base_le HW1.out.own i (by simpa using h))))
  have hw3' : WrAt w.heap.size w3 w.heap.size v3 (uBytes v ++ (nBytes s.length ++ s)) := by
    have e : [txt s].flatMap sBytes = nBytes s.length ++ s := by simp [sBytes_txt]
    rw [e] at hw3
    exact hw3
  have HW3 := hd hw3'
  clear hw3 hw3' hup3
  have hln : (uBytes v ++ (nBytes s.length ++ s)).length ≤ 1048576 := by simp only [List.length_append]; omega
  generalize uBytes v ++ (nBytes s.length ++ s) = L at *
  go_wp2_with fail
  refine (Text_any w.heap.size w.heap.size v3 L w3 HW3.out).mono ?_
  rintro x w4 ⟨rfl, rfl⟩
  have HF := hd (frame_any L w4 hln)
  rw [show txt L = ⟨L.toArray⟩ from rfl] at HF
  go_wp2_with fail
  refine HF.out.mono ?_
  rintro x w5 ⟨rfl, hu5⟩
  go_wp2_with fail
  go_ret
  rw [HSP.out]
  exact ⟨rfl, HU3.out.trans hu5⟩

/-- A mark's text. -/
def markB (g n : Nat) : List UInt8 := uBytes g ++ nBytes (n : Int)
set_option maxHeartbeats 2000000 in
theorem wspellMark_any (g n : Nat) (w : World) (hg : g < 18446744073709551616) (hn : n ≤ 9223372036854775807) :
    Calls Try.prog 67 #[.int .u64 g, .int .i64 n] w fun x w' => x = .returned (.string (txt (markB g n))) ∧ Upd [] w w' := by
  have hnl := nBytes_le (n : Int)
  have hul := uBytes_le g
  have HV := hd hg
  have HN := hd hn
  have e2 : ∃ W, (w.alloc (.cells #[.slice none 0 0] 154)).alloc (.cells #[.int .u64 g] 52) = W ∧ Upd [] w W ∧ WrAt w.heap.size W w.heap.size (.slice none 0 0) [] ∧ Blk W (w.heap.size + 1) #[.int .u64 g] 52 ∧ w.heap.size < W.heap.size :=
    ⟨_, rfl, ((Upd.refl _ _).alloc _).alloc _, ⟨(Blk.new _ _ _).alloc _, World.ownsRow_nil _ _ _ _⟩, Blk.new' _ _ _ (by simp), by simp; omega⟩
  clear hg hn
  go_enter Try.func67, Try.ntmps67
  go_wp2_with fail
  obtain ⟨W, hW, hu, hwr, hb, hlt⟩ := e2
  rw [hW]
  clear hW
  refine (U_any w.heap.size w.heap.size (w.heap.size + 1) [g] _ [] W hwr (by simpa using hb) (by intro x hx; simp at hx; rw [hx]; exact HV.out) (by simp) (by omega)).mono ?_
  rintro x w1 ⟨rfl, v1, hw1, hup1⟩
  have HU1 := hd (show Upd [] w w1 from hu.trans' hup1.upd (fun i hi => by
    rcases List.mem_cons.1 hi with h | h
    · exact .inr (by omega)
    · simp [Value.ownBlock] at h))
  have hw1' : WrAt w.heap.size w1 w.heap.size v1 (uBytes g) := by simpa using hw1
  have HW1 := hd hw1'
  have hs1 := HU1.out.size
  have hlt1 := hw1'.blk.lt
  clear hu hwr hb hw1 hw1' hup1 hlt
  have hst := Blk.new w1 #[.int .i64 n] 3
  have HW2 := hd (show WrAt w.heap.size (w1.alloc (.cells #[.int .i64 n] 3)) w.heap.size v1 (uBytes g) from ⟨HW1.out.blk.alloc _, own_upd (L := []) HW1.out.own ((Upd.refl _ _).alloc _) (by simp)⟩)
  have HU2 := hd (HU1.out.alloc (.cells #[.int .i64 n] 3))
  have HST := hd hst
  clear hst
  go_wp2_with fail
  refine (N_any w.heap.size w.heap.size w1.heap.size [(n : Int)] v1 (uBytes g) _ HW2.out (by simpa using HST.out) (by intro x hx; simp at hx; have := HN.out; omega) (by simp; omega) (by simp; omega)).mono ?_
  rintro x w3 ⟨rfl, v3, hw3, hup3⟩
  have HU3 := hd (show Upd [] w w3 from HU2.out.trans' hup3.upd (fun i hi => by
    rcases List.mem_cons.1 hi with h | h
    · exact .inr (by omega)
    · exact .inr (own_base_le HW1.out.own i (by simpa using h))))
  have HW3 := hd (show WrAt w.heap.size w3 w.heap.size v3 (markB g n) by simpa [markB] using hw3)
  clear hw3 hup3
  go_wp2_with fail
  refine (Text_any w.heap.size w.heap.size v3 (markB g n) w3 HW3.out).mono ?_
  rintro x w4 ⟨rfl, rfl⟩
  go_wp2_with fail
  go_ret
  exact ⟨rfl, HU3.out⟩

/-- What a mark's text says. -/
def markL (s : List UInt8) : Nat × Int × Bool :=
  if s = [] then (0, 0, true) else ((RdS.U ⟨s, 0⟩).1, ((RdS.U ⟨s, 0⟩).2.N 1099511627776).1, decide (((RdS.U ⟨s, 0⟩).2.N 1099511627776).2.done.err = 0))
theorem mark_back (g n : Nat) (hg : g < 18446744073709551616) (hn : n ≤ 1099511627776) : markL (markB g n) = (g, (n : Int), true) := by
  have hne : markB g n ≠ [] := by simp [markB, uBytes]
  have hN : RdS.N ⟨nBytes (n : Int), 0⟩ 1099511627776 = ((n : Int), ⟨[], 0⟩) := by
    have := N_nBytes n 1099511627776 (by omega) (by omega) []
    rwa [List.append_nil] at this
  unfold markL
  rw [if_neg hne]
  unfold markB
  rw [U_uBytes g hg]
  simp only
  rw [hN]
  simp [RdS.done]

set_option maxHeartbeats 4000000 in
theorem wparseMark_any (s : List UInt8) (w : World) (hs : s.length ≤ 1099511627776) :
    Calls Try.prog 62 #[.string (txt s)] w fun x w' => x = .returned (.tuple #[.int .u64 ((markL s).1 : Int), .int .i64 (markL s).2.1, .bool (markL s).2.2]) ∧ Upd [] w w' := by
  by_cases h0 : s = []
  · have ht : (txt s).toList = [] := by rw [txt_list]; exact h0
    have HX := hd (show markL s = (0, 0, true) from if_pos h0)
    clear h0
    go_enter Try.func62, Try.ntmps62
    go_wp2_with fail
    go_ret3
    rw [HX.out]
    exact ⟨rfl, Upd.refl _ _⟩
  · have ht : ¬ (txt s).toList = [] := by rw [txt_list]; exact h0
    have hte : (txt s).toList.isEmpty = false := by simpa using ht
    have HX := hd (show markL s = ((RdS.U ⟨s, 0⟩).1, ((RdS.U ⟨s, 0⟩).2.N 1099511627776).1, decide (((RdS.U ⟨s, 0⟩).2.N 1099511627776).2.done.err = 0)) from if_neg h0)
    have hul := U_left ⟨s, 0⟩
    simp only at hul
    have HU := hd (fun k W (h : RdAt W k ⟨s, 0⟩) => U_rd ⟨s, 0⟩ k W h hs)
    have HN := hd (fun k W (h : RdAt W k (RdS.U ⟨s, 0⟩).2) => N_rd (RdS.U ⟨s, 0⟩).2 1099511627776 k W h (by omega) (by decide) (by decide))
    have HD := hd (fun k W (h : RdAt W k ((RdS.U ⟨s, 0⟩).2.N 1099511627776).2) => done_rd ((RdS.U ⟨s, 0⟩).2.N 1099511627776).2 k W h)
    clear h0 hul
    generalize ((RdS.U ⟨s, 0⟩).2.N 1099511627776).2.done = DN at *
    generalize (RdS.U ⟨s, 0⟩).2.N 1099511627776 = N at *
    generalize RdS.U ⟨s, 0⟩ = U at *
    obtain ⟨uv, r2⟩ := U
    obtain ⟨nv, r3⟩ := N
    simp only at HX HU HN HD
    go_enter Try.func62, Try.ntmps62
    go_wp2_with fail
    refine (read_new s w).mono ?_
    rintro x w1 ⟨rfl, hu1, hr1, hlt1⟩
    obtain ⟨k, hk⟩ : ∃ k, k = w.heap.size := ⟨_, rfl⟩
    rw [← hk] at hr1 hlt1 ⊢
    have hkl : w.heap.size ≤ k := by omega
    have HU1 := hd hu1
    have HR1 := hd hr1
    clear hu1 hr1 hk hlt1
    go_wp2_with fail
    refine (HU.out k w1 HR1.out).mono ?_
    rintro x w2 ⟨rfl, hu2, hr2⟩
    have HU2 := hd (HU1.out.trans' hu2 (by intro i hi; simp at hi; omega))
    have HR2 := hd hr2
    clear hu2 hr2
    go_wp2_with fail
    refine (HN.out k w2 HR2.out).mono ?_
    rintro x w3 ⟨rfl, hu3, hr3⟩
    have HU3 := hd (HU2.out.trans' hu3 (by intro i hi; simp at hi; omega))
    have HR3 := hd hr3
    clear hu3 hr3
    go_wp2_with fail
    refine (HD.out k w3 HR3.out).mono ?_
    rintro x w4 ⟨rfl, hu4, hr4⟩
    have HU4 := hd (HU3.out.trans' hu4 (by intro i hi; simp at hi; omega))
    clear hu4 hr4
    by_cases he : DN.err = 0
    · have he' : (DN.err == 0) = true := by simp [he]
      have HDD := hd (show decide (DN.err = 0) = true by simp [he])
      clear he
      go_wp2_with fail
      go_ret3
      rw [HX.out, HDD.out]
      exact ⟨rfl, HU4.out⟩
    · have he' : (DN.err == 0) = false := by simpa using he
      have HDD := hd (show decide (DN.err = 0) = false by simpa using he)
      clear he
      go_wp2_with fail
      go_ret3
      rw [HX.out, HDD.out]
      exact ⟨rfl, HU4.out⟩

/-- A log. -/
structure LogS where
  gen : Nat
  size : Nat
  recs : Nat
  loose : Bool
abbrev LogAt (w : World) (kl kc bd : Nat) (l : LogS) : Prop := Blk w kl #[.pointer (some ⟨bd, 0, none⟩), .pointer (some ⟨kc, 0, none⟩), .int .u64 l.gen, .int .i64 l.size, .int .i64 l.recs, .bool l.loose] 118

theorem wgen_any (kl kc bd : Nat) (l : LogS) (w : World) (h : LogAt w kl kc bd l) : Calls Try.prog 41 #[.pointer (some ⟨kl, 0, none⟩)] w fun x w' => x = .returned (.int .u64 l.gen) ∧ w = w' := by
  have hc := h.cell
  clear h
  go_enter Try.func41, Try.ntmps41
  go_wp2_with fail
  go_ret
  exact ⟨rfl, rfl⟩
theorem wrecs_any (kl kc bd : Nat) (l : LogS) (w : World) (h : LogAt w kl kc bd l) : Calls Try.prog 46 #[.pointer (some ⟨kl, 0, none⟩)] w fun x w' => x = .returned (.int .i64 l.recs) ∧ w = w' := by
  have hc := h.cell
  clear h
  go_enter Try.func46, Try.ntmps46
  go_wp2_with fail
  go_ret
  exact ⟨rfl, rfl⟩
theorem wsize_any (kl kc bd : Nat) (l : LogS) (w : World) (h : LogAt w kl kc bd l) : Calls Try.prog 47 #[.pointer (some ⟨kl, 0, none⟩)] w fun x w' => x = .returned (.int .i64 l.size) ∧ w = w' := by
  have hc := h.cell
  clear h
  go_enter Try.func47, Try.ntmps47
  go_wp2_with fail
  go_ret
  exact ⟨rfl, rfl⟩

/-- What replace answers, and leaves. -/
def DiskS.replaceIt (d : DiskS) (f : Int) (s : ByteArray) : Int × DiskS := if (d.putIt f s).1 = 0 then (d.putIt f s).2.syncIt f else d.putIt f s
theorem wreplace_any (d : DiskS) (f : Int) (s : ByteArray) (kl kc bd : Nat) (l : LogS) (w : World) (hd' : DiskAt w bd d) (h : LogAt w kl kc bd l) (hf : d.fine) (hs : s.size ≤ 1099511627776) :
    Calls Try.prog 86 #[.pointer (some ⟨kl, 0, none⟩), .int .i64 f, .string s] w fun x w' => x = .returned (.int .i64 (d.replaceIt f s).1) ∧ Upd [bd] w w' ∧ DiskAt w' bd (d.replaceIt f s).2 := by
  have hne : kl ≠ bd := blk_ne h hd' (by decide)
  have HX := hd (show d.replaceIt f s = if (d.putIt f s).1 = 0 then (d.putIt f s).2.syncIt f else d.putIt f s from rfl)
  have HP := hd (put_any d f s w bd hd' hf hs)
  have HF := hd (put_fine d f s hf hs)
  have hc := h.cell
  have H := hd h
  clear h hd'
  generalize d.putIt f s = r at *
  obtain ⟨e, D⟩ := r
  simp only at HX HP HF
  go_enter Try.func86, Try.ntmps86
  go_wp2_with fail
  refine HP.out.mono ?_
  rintro x w1 ⟨rfl, hu1, hd1⟩
  have HU1 := hd hu1
  have HD1 := hd hd1
  have h1 := H.out.upd hu1 (by simpa using hne)
  clear hc hu1 hd1
  have hc := h1.cell
  by_cases he : e = 0
  · have he' : (e != 0) = false := by simp [he]
    have HY := hd (HX.out.trans (if_pos he))
    clear he h1
    go_wp2_with fail
    refine (sync_any D f w1 bd HD1.out HF.out).mono ?_
    rintro x w2 ⟨rfl, hu2, hd2⟩
    go_wp2_with fail
    go_ret
    rw [HY.out]
    exact ⟨rfl, HU1.out.trans hu2, hd2⟩
  · have he' : (e != 0) = true := by simpa using he
    have HY := hd (HX.out.trans (if_neg he))
    clear he h1
    go_wp2_with fail
    go_ret
    rw [HY.out]
    exact ⟨rfl, HU1.out, HD1.out⟩
end Go.Proofs.Ytjaoiaknglnomaa
