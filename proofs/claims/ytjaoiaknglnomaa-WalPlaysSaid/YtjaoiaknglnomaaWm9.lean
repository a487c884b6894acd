/-
  twin.Open, walked. Conditions: a disk as it may be, a place that there is.
-/
import Derived.Test.YtjaoiaknglnomaaWm8
import Derived.BigRegion
import Derived.Test.YtjaoiaknglnomaaWm1
set_option linter.unusedVariables false
set_option linter.unusedSimpArgs false
set_option maxRecDepth 100000
namespace Go.Proofs.Ytjaoiaknglnomaa
open Go.RowKit

theorem parseL_fine (s : List UInt8) : (parseL s).version < 18446744073709551616 ∧ (parseL s).text.length ≤ 524288 := by
  unfold parseL
  by_cases h : s = []
  · rw [if_pos h]
    exact ⟨by decide, by decide⟩
  · rw [if_neg h]
    dsimp only
    split
    · refine ⟨U_lt _, ?_⟩
      have h1 := (take_le (((RdS.U ⟨(openL s).2.1, 0⟩).2.N 524288).2) ((RdS.U ⟨(openL s).2.1, 0⟩).2.N 524288).1.toNat).1
      have h2 : ((RdS.U ⟨(openL s).2.1, 0⟩).2.N 524288).1 ≤ 524288 := by
        unfold RdS.N
        split
        · exact (by decide : (0 : Int) ≤ 524288)
        · dsimp only; omega
      show (RdS.take ((RdS.U ⟨(openL s).2.1, 0⟩).2.N 524288).2 ((RdS.U ⟨(openL s).2.1, 0⟩).2.N 524288).1.toNat).1.length ≤ 524288
      omega
    · exact ⟨by decide, by decide⟩

/-- What Open answers, and leaves: a version (if there is a cell), the text, the error, the disk. -/
def DiskS.openIt (d : DiskS) (first : Int) : Option Nat × List UInt8 × Int × DiskS :=
  let a := parseL (d.file first)
  let b := parseL (d.file (first + 1))
  if b.bad = true ∧ a.version = 0 then (none, [], 7, d)
  else if a.version = 0 ∧ b.version = 0 then (some 0, [], 0, d)
  else
    let best := if a.version < b.version then b else a
    let m := d.mendIt first a b best
    if m.1 ≠ 0 then (none, [], m.1, m.2) else (some best.version, best.text, 0, m.2)

/-- What Open answers, as values. -/
def OpenOut (B : Nat) (first : Int) (bd : Nat) (o : Option Nat × List UInt8 × Int × DiskS) (x : Ending) (w : World) : Prop :=
  match o.1 with
  | none => x = .returned (.tuple #[.pointer none, .string (txt o.2.1), .int .i64 o.2.2.1])
  | some v => ∃ kc, B ≤ kc ∧ x = .returned (.tuple #[.pointer (some ⟨kc, 0, none⟩), .string (txt o.2.1), .int .i64 o.2.2.1]) ∧ CellAt w kc bd first v

set_option maxHeartbeats 8000000 in
theorem topen_any (d : DiskS) (first : Int) (bd : Nat) (w : World) (hd' : DiskAt w bd d) (hf : d.fine) (hf0 : 0 ≤ first) (hf1 : first ≤ 2) :
    Calls Try.prog 26 #[.pointer (some ⟨bd, 0, none⟩), .int .i64 first] w fun x w' =>
      OpenOut w.heap.size first bd (d.openIt first) x w' ∧ Upd [bd] w w' ∧ DiskAt w' bd (d.openIt first).2.2.2 := by
  have hbl := hd'.lt
  have e1 : ∃ W, w.alloc (.cells #[.pointer (some ⟨bd, 0, none⟩), .int .i64 first, .int .u64 0] 101) = W ∧ Upd [] w W ∧ CellAt W w.heap.size bd first 0 ∧ W.heap.size = w.heap.size + 1 := ⟨_, rfl, (Upd.refl _ _).alloc _, Blk.new _ _ _, by simp⟩
  have HD := hd hd'
  have HF := hd hf
  have HOI := hd (show d.openIt first = if (parseL (d.file (first + 1))).bad = true ∧ (parseL (d.file first)).version = 0 then (none, [], 7, d)
    else if (parseL (d.file first)).version = 0 ∧ (parseL (d.file (first + 1))).version = 0 then (some 0, [], 0, d)
    else if (d.mendIt first (parseL (d.file first)) (parseL (d.file (first + 1))) (if (parseL (d.file first)).version < (parseL (d.file (first + 1))).version then parseL (d.file (first + 1)) else parseL (d.file first))).1 ≠ 0
      then (none, [], (d.mendIt first (parseL (d.file first)) (parseL (d.file (first + 1))) (if (parseL (d.file first)).version < (parseL (d.file (first + 1))).version then parseL (d.file (first + 1)) else parseL (d.file first))).1, (d.mendIt first (parseL (d.file first)) (parseL (d.file (first + 1))) (if (parseL (d.file first)).version < (parseL (d.file (first + 1))).version then parseL (d.file (first + 1)) else parseL (d.file first))).2)
      else (some (if (parseL (d.file first)).version < (parseL (d.file (first + 1))).version then parseL (d.file (first + 1)) else parseL (d.file first)).version, (if (parseL (d.file first)).version < (parseL (d.file (first + 1))).version then parseL (d.file (first + 1)) else parseL (d.file first)).text, 0, (d.mendIt first (parseL (d.file first)) (parseL (d.file (first + 1))) (if (parseL (d.file first)).version < (parseL (d.file (first + 1))).version then parseL (d.file (first + 1)) else parseL (d.file first))).2) from rfl)
  have HRD := hd (fun (X : World) (k : Nat) (h1 : DiskAt X bd d) (h2 : CellAt X k bd first 0) => cread_any d first 0 k bd X h1 h2 hf hf0 hf1)
  have HPA := hd (parseL_fine (d.file first))
  have HPB := hd (parseL_fine (d.file (first + 1)))
  generalize parseL (d.file (first + 1)) = b at *
  generalize parseL (d.file first) = a at *
  clear hd' hf
  go_enter Try.func26, Try.ntmps26
  go_upto_region 4 with fail
  obtain ⟨W, hW, hu, hC, hsz⟩ := e1
  rw [hW]
  clear hW
  have HU := hd hu
  have HC := hd hC
  have HDW := hd (HD.out.upd hu (by simp))
  have HRW := hd (fun (X : World) (hx : Upd [] W X) => HRD.out X w.heap.size (HDW.out.upd hx (by simp)) (hC.upd hx (by simp)))
  clear hu hC
  go_wp2_with fail
  refine (HRW.out W (Upd.refl _ _)).mono ?_
  rintro x w1 ⟨rfl, hu1⟩
  have HU1 := hd (HU.out.trans hu1)
  have HD1 := hd (HDW.out.upd hu1 (by simp))
  have HC1 := hd (HC.out.upd hu1 (by simp))
  have hs1 := hu1.size
  have hlt1 : w.heap.size < w1.heap.size := by omega
  clear hu1 hs1 hsz HU HC HDW HRW HRD
  have e2 := two_new2 w1 #[.int .u64 a.version, .string (txt a.text), .bool a.bad] #[.int .u64 b.version, .string (txt b.text), .bool b.bad] 103 103
  go_upto_block 0 with fail
  obtain ⟨W2, hW2, hu2, hA, hB, hsz2⟩ := e2
  rw [hW2]
  clear hW2
  have HU2 := hd (HU1.out.trans hu2)
  have HD2 := hd (HD1.out.upd hu2 (by simp))
  have HC2 := hd (HC1.out.upd hu2 (by simp))
  have HA := hd hA
  have HB := hd hB
  have hac := hA.cell
  have hbc := hB.cell
  clear hu2 hA hB HU1 HD1 HC1
  go_cut [] from 22 to 44 (fun wx => W2 = wx ∧ ¬ (b.bad = true ∧ a.version = 0) ∧ ¬ (a.version = 0 ∧ b.version = 0))
  case first =>
    by_cases ha : a.version = 0
    · have ha' : (a.version : Int) = 0 := by omega
      rcases hbb : b.bad with _ | _
      · rw [hbb] at hbc
        by_cases hbv : b.version = 0
        · have hbv' : (b.version : Int) = 0 := by omega
          have HE := hd (show d.openIt first = (some 0, [], 0, d) by rw [HOI.out, if_neg (by simp [hbb]), if_pos ⟨ha, hbv⟩])
          clear ha hbv hbb
          go_wp2_with fail
          refine bodyPost_ret (v := .tuple #[.pointer (some ⟨w.heap.size, 0, none⟩), .string ⟨#[]⟩, .int .i64 0]) (by simp [results, Try.results26, go_sem]) rfl ?_
          rw [HE.out]
          exact ⟨⟨_, Nat.le_refl _, rfl, HC2.out⟩, HU2.out.mono (by simp), HD2.out⟩
        · have hbv' : ¬ ((b.version : Int) = 0) := by omega
          have HE := hd (show ¬ (b.bad = true ∧ a.version = 0) ∧ ¬ (a.version = 0 ∧ b.version = 0) from ⟨by simp [hbb], fun h => hbv h.2⟩)
          clear ha hbv hbb
          go_wp2_with fail
          go_meet
          case rel => exact ⟨rfl, HE.out⟩
      · rw [hbb] at hbc
        have HE := hd (show d.openIt first = (none, [], 7, d) by rw [HOI.out, if_pos ⟨hbb, ha⟩])
        clear ha hbb
        go_wp2_with fail
        refine bodyPost_ret (v := .tuple #[.pointer none, .string ⟨#[]⟩, .int .i64 7]) (by simp [results, Try.results26, go_sem]) rfl ?_
        rw [HE.out]
        exact ⟨rfl, HU2.out.mono (by simp), HD2.out⟩
    · have ha' : ¬ ((a.version : Int) = 0) := by omega
      have HE := hd (show ¬ (b.bad = true ∧ a.version = 0) ∧ ¬ (a.version = 0 ∧ b.version = 0) from ⟨fun h => ha h.2, fun h => ha h.1⟩)
      rcases hbb : b.bad with _ | _
      · rw [hbb] at hbc
        clear ha hbb
        go_wp2_with fail
        go_meet
        case rel => exact ⟨rfl, HE.out⟩
      · rw [hbb] at hbc
        clear ha hbb
        go_wp2_with fail
        go_meet
        case rel => exact ⟨rfl, HE.out⟩
  case rest =>
    obtain ⟨rfl, hn1, hn2⟩ := hcut
    rw [if_neg hn1, if_neg hn2] at HOI
    have hl2 : w.heap.size < W2.heap.size ∧ w1.heap.size < W2.heap.size ∧ w1.heap.size + 1 < W2.heap.size := by omega
    clear hn1 hn2 hsz2
    have e3 : ∃ W, W2.alloc (.cells #[.int .u64 a.version, .string (txt a.text), .bool a.bad] 103) = W ∧ Upd [] W2 W ∧ Blk W W2.heap.size #[.int .u64 a.version, .string (txt a.text), .bool a.bad] 103 := ⟨_, rfl, (Upd.refl _ _).alloc _, Blk.new _ _ _⟩
    go_upto_region 10 with fail
    obtain ⟨W3, hW3, hu3, hR⟩ := e3
    rw [hW3]
    clear hW3
    have HU3 := hd (HU2.out.trans hu3)
    have HD3 := hd (HD2.out.upd hu3 (by simp))
    have HC3 := hd (HC2.out.upd hu3 (by simp))
    have HA3 := hd (HA.out.upd hu3 (by simp))
    have HB3 := hd (HB.out.upd hu3 (by simp))
    have HR3 := hd hR
    have hac3 := HA3.out.cell
    have hbc3 := HB3.out.cell
    clear hu3 hR HU2 HD2 HC2 HA HB hac hbc
    go_cut [50] from 46 to 51 (fun s50 wx => W3 = wx ∧ s50 = .bool (decide (a.version < b.version)))
    case first =>
      go_wp2_with fail
      go_meet
      case rel => exact ⟨rfl, rfl⟩
    case rest =>
      obtain ⟨rfl, rfl⟩ := hcut
      go_upto_if 50 with fail
      go_cut [] from 50 to 52 (fun wx => Upd [W2.heap.size] W3 wx ∧ Blk wx W2.heap.size #[.int .u64 (if a.version < b.version then b else a).version, .string (txt (if a.version < b.version then b else a).text), .bool (if a.version < b.version then b else a).bad] 103)
      case first =>
        by_cases hab : a.version < b.version
        · have hab' : (a.version : Int) < b.version := by omega
          have HAB := hd hab
          have hrz := HR3.out.frozen
          have hrc := HR3.out.cell
          obtain ⟨W4, hW4, hu4, hR4⟩ := set3 HR3.out (.int .u64 b.version) (.string (txt b.text)) (.bool b.bad)
          have HU4 := hd hu4
          have HR4 := hd hR4
          clear hab hu4 hR4
          go_wp2_with fail
          go_meet
          case rel => rw [if_pos HAB.out]; exact ⟨HU4.out, HR4.out⟩
        · have hab' : ¬ ((a.version : Int) < b.version) := by omega
          have HAB := hd hab
          clear hab
          go_wp2_with fail
          go_meet
          case rel => rw [if_neg HAB.out]; exact ⟨Upd.refl _ _, HR3.out⟩
      case rest =>
        obtain ⟨hu4, hR4⟩ := hcut
        have HU4 := hd (HU3.out.trans' hu4 (by intro i hi; simp at hi; omega))
        have HD4 := hd (HD3.out.upd hu4 (by simp; omega))
        have HC4 := hd (HC3.out.upd hu4 (by simp; omega))
        have HA4 := hd (HA3.out.upd hu4 (by simp; omega))
        have HB4 := hd (HB3.out.upd hu4 (by simp; omega))
        have hbf : (if a.version < b.version then b else a).version < 18446744073709551616 ∧ (if a.version < b.version then b else a).text.length ≤ 524288 := by
          split
          · exact HPB.out
          · exact HPA.out
        generalize (if a.version < b.version then b else a) = best at *
        have HR4 := hd hR4
        have HBF := hd hbf
        have hac4 := HA4.out.cell
        have hbc4 := HB4.out.cell
        have hrc4 := HR4.out.cell
        clear hu4 hR4 hbf HU3 HD3 HC3 HA3 HB3 HR3 hac3 hbc3
        go_wp2_with fail
        refine (cmend_any d first 0 a b best w.heap.size bd wc HD4.out HC4.out HF.out hf0 hf1 HBF.out.1 (by have := HBF.out.2; omega)).mono ?_
        rintro x w5 ⟨rfl, hu5, hd5⟩
        generalize hm : d.mendIt first a b best = m at *
        obtain ⟨e, D⟩ := m
        simp only at hd5 HOI
        have HU5 := hd ((HU4.out.mono (by simp)).trans hu5)
        have HD5 := hd hd5
        have hR5 := HR4.out.upd hu5 (by simp; omega)
        have HC5 := hd (HC4.out.upd hu5 (by simp; omega))
        clear hu5 hd5 hm HU4 HD4 HC4 HA4 HB4 HR4 hac4 hbc4 hrc4
        by_cases he : e = 0
        · have HE := hd he
          have HO := hd (show d.openIt first = (some best.version, best.text, 0, D) by rw [HOI.out, if_neg (fun h => h he)])
          have hrc5 := hR5.cell
          have HR5 := hd hR5
          have hcz := HC5.out.frozen
          have hcc := HC5.out.cell
          have he' : (e != 0) = false := by simp [he]
          clear hR5 he
          go_upto_region 16 with fail
          have e6 : ∃ W, w5.setCell ⟨w.heap.size, 2, none⟩ (.int .u64 best.version) = W ∧ Upd [bd] w W ∧ DiskAt W bd D ∧ CellAt W w.heap.size bd first best.version ∧ Blk W W2.heap.size #[.int .u64 best.version, .string (txt best.text), .bool best.bad] 103 :=
            ⟨_, rfl, HU5.out.trans' ((Upd.refl [w.heap.size] w5).setCell (by simp) _) (by intro i hi; simp at hi; omega), HD5.out.set_other (by simp; omega) _, HC5.out.set 2 _, HR5.out.set_other (by simp; omega) _⟩
          obtain ⟨W6, hW6, hu6, hd6, hc6, hr6⟩ := e6
          rw [hW6]
          have hrc6 := hr6.cell
          have HE6 := hd (show Upd [bd] w W6 ∧ DiskAt W6 bd D ∧ CellAt W6 w.heap.size bd first best.version from ⟨hu6, hd6, hc6⟩)
          clear hW6 hu6 hd6 hc6 hr6 hrc5 hcz hcc
          go_region_with fail
          all_goals
            go_wp2_with fail
            refine bodyPost_ret (v := .tuple #[.pointer (some ⟨w.heap.size, 0, none⟩), .string (txt best.text), .int .i64 0]) (by simp [results, Try.results26, go_sem]) rfl ?_
            rw [HO.out]
            obtain ⟨q1, q2, q3⟩ := HE6.out
            first
            | exact ⟨⟨_, Nat.le_refl _, rfl, q3⟩, q1, q2⟩
            | exact ⟨⟨_, Nat.le_refl _, rfl, q3.drew⟩, q1.drew, q2.drew⟩
        · have he' : (e != 0) = true := by simpa using he
          have HO := hd (show d.openIt first = (none, [], e, D) by rw [HOI.out, if_pos he])
          clear hR5 he
          go_wp2_with fail
          refine bodyPost_ret (v := .tuple #[.pointer none, .string ⟨#[]⟩, .int .i64 e]) (by simp [results, Try.results26, go_sem]) rfl ?_
          rw [HO.out]
          exact ⟨rfl, HU5.out, HD5.out⟩
end Go.Proofs.Ytjaoiaknglnomaa

/-
  Numbers as bytes are prefix codes: what is written tells what was written. No condition but that the numbers are of 64 bits.
-/
set_option linter.unusedVariables false
namespace Go.Proofs.Ytjaoiaknglnomaa

theorem wideOf_inj (x y : Nat) : ∀ k, wideOf x k = wideOf y k → x % 256 ^ k = y % 256 ^ k
  | 0, _ => by simp [Nat.mod_one]
  | k + 1, h => by
    simp only [wideOf, List.cons.injEq] at h
    have ih := wideOf_inj x y k h.2
    have h1 : x / 256 ^ k % 256 = y / 256 ^ k % 256 := by
      have := congrArg UInt8.toNat h.1
      simpa using this
    have e : ∀ z : Nat, z % 256 ^ (k + 1) = z % 256 ^ k + 256 ^ k * (z / 256 ^ k % 256) := fun z => by rw [Nat.pow_succ]; exact Nat.mod_mul
    rw [e x, e y, ih, h1]
theorem headOf_cases (x : Nat) : (x < 252 ∧ headOf x = (UInt8.ofNat x, 0)) ∨ (252 ≤ x ∧ x < 65536 ∧ headOf x = (252, 2)) ∨ (65536 ≤ x ∧ x < 4294967296 ∧ headOf x = (253, 4)) ∨ (4294967296 ≤ x ∧ headOf x = (254, 8)) := by
  unfold headOf
  split
  · exact .inl ⟨by assumption, rfl⟩
  · split
    · exact .inr (.inl ⟨by omega, by assumption, rfl⟩)
    · split
      · exact .inr (.inr (.inl ⟨by omega, by assumption, rfl⟩))
      · exact .inr (.inr (.inr ⟨by omega, rfl⟩))
theorem uBytes_prefix (x y : Nat) (hx : x < 18446744073709551616) (hy : y < 18446744073709551616) (r s : List UInt8) (h : uBytes x ++ r = uBytes y ++ s) : x = y ∧ r = s := by
  have e : ∀ z : Nat, z < 18446744073709551616 → z % 256 ^ (headOf z).2 = z ∨ (headOf z).2 = 0 := fun z hz => by
    unfold headOf
    split
    · exact .inr rfl
    · split
      · exact .inl (Nat.mod_eq_of_lt (by simp only; omega))
      · split
        · exact .inl (Nat.mod_eq_of_lt (by simp only; omega))
        · exact .inl (Nat.mod_eq_of_lt (by simp only; omega))
  simp only [uBytes, List.cons_append, List.cons.injEq] at h
  obtain ⟨h1, h2⟩ := h
  have hc : (headOf x).2 = (headOf y).2 ∧ ((headOf x).2 = 0 → x = y) := by
    have ht := congrArg UInt8.toNat h1
    rcases headOf_cases x with ⟨a1, a2⟩ | ⟨a0, a1, a2⟩ | ⟨a0, a1, a2⟩ | ⟨a0, a2⟩ <;> rcases headOf_cases y with ⟨b1, b2⟩ | ⟨b0, b1, b2⟩ | ⟨b0, b1, b2⟩ | ⟨b0, b2⟩ <;> rw [a2, b2] at ht ⊢ <;> simp at ht ⊢ <;> omega
  rw [hc.1] at h2
  have h3 := List.append_inj h2 (by simp [wideOf_length])
  refine ⟨?_, h3.2⟩
  rcases e x hx with hz | hz
  · rcases e y hy with hw | hw
    · have := wideOf_inj x y _ h3.1
      rw [← hc.1, hz, hc.1, hw] at this
      exact this
    · exact hc.2 (hc.1.trans hw)
  · exact hc.2 hz
theorem nBytes_prefix (x y : Int) (hx : 0 ≤ x ∧ x ≤ 9223372036854775807) (hy : 0 ≤ y ∧ y ≤ 9223372036854775807) (r s : List UInt8) (h : nBytes x ++ r = nBytes y ++ s) : x = y ∧ r = s := by
  obtain ⟨h1, h2⟩ := uBytes_prefix x.toNat y.toNat (by omega) (by omega) r s h
  exact ⟨by omega, h2⟩
theorem sBytes_prefix (a b : ByteArray) (ha : a.size ≤ 9223372036854775807) (hb : b.size ≤ 9223372036854775807) (r s : List UInt8) (h : sBytes a ++ r = sBytes b ++ s) : a = b ∧ r = s := by
  unfold sBytes at h
  rw [List.append_assoc, List.append_assoc] at h
  obtain ⟨h1, h2⟩ := nBytes_prefix a.size b.size (by omega) (by omega) _ _ h
  have hl : ∀ c : ByteArray, c.data.toList.length = c.size := fun c => by rw [Array.length_toList, ByteArray.size_data]
  obtain ⟨h3, h4⟩ := List.append_inj h2 (by rw [hl, hl]; omega)
  exact ⟨ByteArray.ext (Array.toList_inj.1 h3), h4⟩
end Go.Proofs.Ytjaoiaknglnomaa

/-
  What is written is read again: numbers, texts, frames, files. Plain laws; no program in sight.
-/
set_option linter.unusedVariables false
set_option linter.unusedSimpArgs false
namespace Go.Proofs.Ytjaoiaknglnomaa

theorem foldNum_wide (x : Nat) : ∀ k a, (wideOf x k).foldl (fun v b => v * 256 + b.toNat) a = a * 256 ^ k + x % 256 ^ k
  | 0, a => by simp [wideOf, Nat.mod_one]
  | k + 1, a => by
    have e : x % 256 ^ (k + 1) = x % 256 ^ k + 256 ^ k * (x / 256 ^ k % 256) := by rw [Nat.pow_succ]; exact Nat.mod_mul
    have e2 : a * 256 ^ (k + 1) = a * 256 * 256 ^ k := by rw [Nat.pow_succ, Nat.mul_assoc, Nat.mul_comm 256]
    have e3 : (UInt8.ofNat (x / 256 ^ k)).toNat = x / 256 ^ k % 256 := by simp
    rw [wideOf, List.foldl_cons, foldNum_wide x k, e, e2, e3, Nat.add_mul, Nat.mul_comm (256 ^ k)]
    omega
theorem numOf_wide (x k : Nat) : numOf (wideOf x k) = x % 256 ^ k := by
  unfold numOf
  rw [foldNum_wide]
  simp

theorem take_app (l r : List UInt8) : RdS.take ⟨l ++ r, 0⟩ l.length = (l, ⟨r, 0⟩) := by
  unfold RdS.take
  rw [if_pos rfl, if_neg (by simp)]
  simp
theorem U_uBytes (x : Nat) (hx : x < 18446744073709551616) (r : List UInt8) : RdS.U ⟨uBytes x ++ r, 0⟩ = (x, ⟨r, 0⟩) := by
  have h1 : RdS.take ⟨uBytes x ++ r, 0⟩ 1 = ([(headOf x).1], ⟨wideOf x (headOf x).2 ++ r, 0⟩) := take_app [(headOf x).1] _
  have key : ∀ c n, headOf x = (c, n) → 252 ≤ c.toNat → c ≠ 255 → moreOf c = n → x % 256 ^ n = x → RdS.U ⟨uBytes x ++ r, 0⟩ = (x, ⟨r, 0⟩) := by
    intro c n hh hc h5 hm hxn
    have h2 : RdS.take ⟨wideOf x n ++ r, 0⟩ n = (wideOf x n, ⟨r, 0⟩) := by
      have := take_app (wideOf x n) r
      rwa [wideOf_length] at this
    rw [hh] at h1
    unfold RdS.U
    rw [h1]
    simp only
    rw [if_neg (by omega), if_neg h5, hm, h2]
    simp only
    rw [numOf_wide, hxn, hh]
    simp
  rcases headOf_cases x with ⟨a1, a2⟩ | ⟨a0, a1, a2⟩ | ⟨a0, a1, a2⟩ | ⟨a0, a2⟩
  · rw [a2] at h1
    have ht : (UInt8.ofNat x).toNat = x := by simp; omega
    unfold RdS.U
    rw [h1]
    simp only
    rw [if_pos (by omega), ht]
    simp [wideOf]
  · exact key _ _ a2 (by decide) (by decide) (by decide) (Nat.mod_eq_of_lt (by omega))
  · exact key _ _ a2 (by decide) (by decide) (by decide) (Nat.mod_eq_of_lt (by omega))
  · exact key _ _ a2 (by decide) (by decide) (by decide) (Nat.mod_eq_of_lt (by omega))
theorem N_nBytes (n : Nat) (most : Int) (h : (n : Int) ≤ most) (hn : n < 18446744073709551616) (r : List UInt8) : RdS.N ⟨nBytes n ++ r, 0⟩ most = ((n : Int), ⟨r, 0⟩) := by
  have e : nBytes (n : Int) = uBytes n := rfl
  unfold RdS.N
  rw [e, U_uBytes n hn]
  rw [if_neg (by simp only; omega)]
theorem S_sBytes (s r : List UInt8) (most : Int) (h : (s.length : Int) ≤ most) (hn : s.length < 18446744073709551616) : RdS.S ⟨nBytes s.length ++ (s ++ r), 0⟩ most = (s, ⟨r, 0⟩) := by
  unfold RdS.S
  rw [N_nBytes s.length most h hn]
  exact take_app s r
theorem take_is (a b : List UInt8) (n : Nat) (h : a.length = n) : (a ++ b).take n = a := by subst h; simp
theorem drop_is (a b : List UInt8) (n : Nat) (h : a.length = n) : (a ++ b).drop n = b := by subst h; simp
theorem openL_frame (s : List UInt8) (hs : s.length ≤ 1048576) : openL (frameL 1 s) = (1, s, 0) := by
  have hw := wideOf_length s.length 3
  have hw4 := wideOf_length (sumN (bodyL 1 s)) 4
  have hn : numOf ((wideOf s.length 3)) = s.length := by rw [numOf_wide]; exact Nat.mod_eq_of_lt (by omega)
  have hl : (frameL 1 s).length = s.length + 8 := by simp [frameL, bodyL, wideOf_length]; omega
  have e1 : ((frameL 1 s).drop 1).take 3 = wideOf s.length 3 := by
    simp only [frameL, bodyL, List.cons_append, List.drop_succ_cons, List.drop_zero, List.append_assoc]
    exact take_is _ _ 3 hw
  have e2 : (frameL 1 s).headD 0 = 1 := rfl
  have hlb : (bodyL 1 s).length = s.length + 4 := by simp [bodyL, wideOf_length]; omega
  have e3 : (frameL 1 s).take (4 + s.length) = bodyL 1 s := take_is _ _ _ (by omega)
  have e4 : ((frameL 1 s).drop (4 + s.length)).take 4 = wideOf (sumN (bodyL 1 s)) 4 := by
    rw [show (frameL 1 s).drop (4 + s.length) = wideOf (sumN (bodyL 1 s)) 4 from drop_is _ _ _ (by omega)]
    rw [List.take_of_length_le (by omega)]
  have e5 : ((frameL 1 s).drop 4).take s.length = s := by
    have : (frameL 1 s).drop 4 = s ++ wideOf (sumN (bodyL 1 s)) 4 := by
      have q : frameL 1 s = (1 :: wideOf s.length 3) ++ (s ++ wideOf (sumN (bodyL 1 s)) 4) := by simp [frameL, bodyL]
      rw [q]
      exact drop_is _ _ _ (by simp [wideOf_length])
    rw [this]
    exact take_is _ _ _ rfl
  have e6 : numOf (wideOf (sumN (bodyL 1 s)) 4) = sumN (bodyL 1 s) := by
    rw [numOf_wide]
    exact Nat.mod_eq_of_lt (sumN_lt _)
  unfold openL
  rw [if_neg (by omega), e2, if_neg (by decide), e1]
  simp only [hn]
  rw [if_neg (by omega), if_neg (by omega), e3, e4, e6, e5, if_pos rfl]
theorem parse_spell (v : Nat) (s : List UInt8) (hv : v < 18446744073709551616) (hv0 : v ≠ 0) (hs : s.length ≤ 524288) : parseL (spellL v s) = ⟨v, s, false⟩ := by
  have h1 := uBytes_le v
  have h2 := nBytes_le s.length
  have hne : spellL v s ≠ [] := by simp [spellL, frameL, bodyL]
  have hlen : (uBytes v ++ (nBytes s.length ++ s)).length ≤ 1048576 := by simp only [List.length_append]; omega
  have ho := openL_frame _ hlen
  have hl : (spellL v s).length = (uBytes v ++ (nBytes s.length ++ s)).length + 8 := by simp [spellL, frameL, bodyL, wideOf_length]; omega
  have hS : RdS.S ⟨nBytes s.length ++ s, 0⟩ 524288 = (s, ⟨[], 0⟩) := by
    have := S_sBytes s [] 524288 (by omega) (by omega)
    rwa [List.append_nil] at this
  unfold parseL
  rw [if_neg hne]
  have e : openL (spellL v s) = (1, uBytes v ++ (nBytes s.length ++ s), 0) := ho
  rw [e]
  simp only
  rw [U_uBytes v hv]
  simp only
  rw [hS]
  rw [if_pos ⟨trivial, trivial, hl.symm, rfl, hv0⟩]
theorem parse_none : parseL [] = ⟨0, [], false⟩ := rfl
end Go.Proofs.Ytjaoiaknglnomaa

/-
  chatelaineref02.Digits and Sum, walked: they answer as seal's. Condition: the sizes that each theorem states.
-/
set_option linter.unusedVariables false
set_option linter.unusedSimpArgs false
set_option maxRecDepth 100000
namespace Go.Proofs.Ytjaoiaknglnomaa
open Go.RowKit

/-- One bit of the reference's sum meets one of the program's. -/
theorem ref_step (C N : Nat) : ((if C % 2 = N % 2 then C / 2 else (C / 2) ^^^ polyN) ^^^ (N / 2)) = crcStep (C ^^^ N) := by
  have hd2 : (C ^^^ N) / 2 = C / 2 ^^^ N / 2 := by
    have := Nat.xor_div_two_pow (a := C) (b := N) (n := 1)
    simpa using this
  have hm : (C ^^^ N) % 2 = 1 ↔ ¬ (C % 2 = N % 2) := by
    rw [Nat.xor_mod_two_eq_one]
    omega
  unfold crcStep
  by_cases h : C % 2 = N % 2
  · rw [if_pos h, if_neg (fun x => hm.1 x h), hd2]
  · rw [if_neg h, if_pos (hm.2 h), hd2]
    rw [Nat.xor_assoc, Nat.xor_assoc, Nat.xor_comm polyN]

set_option maxHeartbeats 1000000 in
theorem refDigits_any (x n : Nat) (w : World) (hx : x < 4294967296) (hn : n ≤ 8) :
    Calls Try.prog 69 #[.int .u32 x, .int .i64 n] w fun e w' => e = .returned (.string (txt (wideOf x n))) ∧ Upd [] w w' := by
  go_enter Try.func69, Try.ntmps69
  go_wp2_with fail
  go_loopw [0, 5, 6] (fun y s i wr => ∃ j : Nat, j ≤ n ∧ i = .int .i64 j ∧ y = .int .u32 ((x / 256 ^ j : Nat) : Int) ∧ s = .string (txt (wideOf x j)) ∧ Upd [] w wr) (fun _ _ i _ => n - (intOf i).toNat)
  case atStart => exact ⟨0, Nat.zero_le _, rfl, by simp, rfl, Upd.refl _ _⟩
  case round =>
    obtain ⟨j, hj, rfl, rfl, rfl, hu⟩ := hrel
    have HU := hd hu
    clear hu
    by_cases hjn : j < n
    · have hy : x / 256 ^ j < 4294967296 := Nat.lt_of_le_of_lt (Nat.div_le_self _ _) hx
      have hdiv := hd (show (((x / 256 ^ j : Nat) : Int) / 256) = ((x / 256 ^ (j + 1) : Nat) : Int) by rw [Nat.pow_succ, ← Nat.div_div_eq_div_mul]; simp)
      generalize hye : x / 256 ^ j = y at *
      have hs : ∀ W : World, (Op.stringOp .add (txt [UInt8.ofNat y]) (txt (wideOf x j))).run Try.prog W = .ok (.string (txt (UInt8.ofNat y :: wideOf x j))) W := fun W => by
        rw [run_string_add_sum _ _ _ (by simp [wideOf_length]; omega), txt_append]; rfl
      go_wp2_with (refine wpList_conv_string rfl 47 9 5 (.tmp 15) rfl wr.heap.size 0 1 1 (txt [UInt8.ofNat y]) rfl Try.underlying47 Try.underlying5 Try.underlying9 (by simp) (fun i hi => by
        obtain rfl : i = 0 := by simpa using hi
        simp [txt]) ?_)
      refine ⟨⟨j + 1, by omega, by go_num, by rw [hdiv.out], by rw [← hye]; rfl, HU.out.alloc _⟩, by simp [intOf]; omega⟩
    · go_wp2_with fail
      go_ret
      obtain rfl : j = n := by omega
      exact ⟨rfl, HU.out⟩

set_option maxHeartbeats 2000000 in
theorem refSum_any (l : List UInt8) (w : World) (hl : l.length ≤ 1099511627776) :
    Calls Try.prog 70 #[.string (txt l)] w fun x w' => x = .returned (.int .u32 (sumN l : Nat)) ∧ w = w' := by
  have HS := hd (show sumN l = 4294967295 - l.foldl moreN 4294967295 from rfl)
  go_enter Try.func70, Try.ntmps70
  go_wp2_with fail
  go_loop [3, 4] (fun v i => ∃ j : Nat, j ≤ l.length ∧ i = .int .i64 j ∧ v = .int .u32 ((l.take j).foldl moreN 4294967295 : Nat)) (fun _ i => l.length - (intOf i).toNat)
  case atStart => exact ⟨0, Nat.zero_le _, rfl, rfl⟩
  case round =>
    obtain ⟨j, hj, rfl, rfl⟩ := hrel
    by_cases hjl : j < l.length
    · have hjl' : (j : Int) < (l.length : Int) := by omega
      have hsz : j < (txt l).size := by simpa using hjl
      have hat := txt_at l j hjl hsz
      have HN := hd (show (l.take (j + 1)).foldl moreN 4294967295 = crcSteps ((l.take j).foldl moreN 4294967295 ^^^ l[j].toNat) 8 by rw [List.take_succ_eq_append_getElem hjl, List.foldl_append]; rfl)
      have HML := hd (foldMore_lt (l.take j) 4294967295 (by omega))
      have HB := hd (show l[j].toNat < 256 from l[j].toNat_lt)
      generalize (l.take j).foldl moreN 4294967295 = C0 at *
      generalize hb0 : l[j].toNat = N0 at *
      go_wp2_with fail
      go_loop [3, 5, 6] (fun c b i => ∃ k C : Nat, k ≤ 8 ∧ C < 4294967296 ∧ i = .int .i64 k ∧ c = .int .u32 (C : Nat) ∧ b = .int .u8 ((N0 / 2 ^ k : Nat) : Int) ∧ C ^^^ (N0 / 2 ^ k) = crcSteps (C0 ^^^ N0) k) (fun _ _ i => 8 - (intOf i).toNat)
      case atStart => exact ⟨0, C0, by omega, HML.out, rfl, rfl, by simp, by simp [crcSteps]⟩
      case round =>
        obtain ⟨k, C, hk, hC, rfl, rfl, rfl, hq⟩ := hrel
        by_cases hk8 : k < 8
        · have hst := ref_step C (N0 / 2 ^ k)
          rw [hq] at hst
          have hN : N0 / 2 ^ k < 256 := Nat.lt_of_le_of_lt (Nat.div_le_self _ _) HB.out
          have hNn := hd (show N0 / 2 ^ k / 2 = N0 / 2 ^ (k + 1) by rw [Nat.pow_succ, Nat.div_div_eq_div_mul])
          have HST := hd hst
          clear hst hq
          generalize N0 / 2 ^ k = N at *
          by_cases hcn : C % 2 = N % 2
          · have hcn' : ((C : Int) % 2 != (N : Int) % 2) = false := by
              have : (C : Int) % 2 = (N : Int) % 2 := by omega
              simp [this]
            have HE := hd hcn
            clear hcn
            go_wp2_with fail
            go_round
            case rel =>
              refine ⟨k + 1, C / 2, by omega, by omega, by go_num, congrArg _ (by omega), by rw [← hNn.out]; exact congrArg _ (by omega), ?_⟩
              have := HST.out
              rw [if_pos HE.out, hNn.out] at this
              exact this
            case measure => simp [intOf]; omega
          · have hcn' : ((C : Int) % 2 != (N : Int) % 2) = true := by
              have : ¬ (C : Int) % 2 = (N : Int) % 2 := by omega
              simpa using this
            have hp : bits .xor .u32 ((C : Int) / 2) 3988292384 = (((C / 2) ^^^ polyN : Nat) : Int) := by
              have := u32_xor (C / 2) polyN (by omega) (by unfold polyN; omega)
              rw [← this]
              rfl
            have hpl : (C / 2) ^^^ polyN < 4294967296 := Nat.xor_lt_two_pow (n := 32) (by omega) (by unfold polyN; omega)
            have HPL := hd hpl
            have HE := hd hcn
            clear hcn hpl
            go_wp2_with fail
            go_round
            case rel =>
              refine ⟨k + 1, (C / 2) ^^^ polyN, by omega, HPL.out, by go_num, rfl, by rw [← hNn.out]; exact congrArg _ (by omega), ?_⟩
              have := HST.out
              rw [if_neg HE.out, hNn.out] at this
              exact this
            case measure => simp [intOf]; omega
        · obtain rfl : k = 8 := by omega
          have HQ := hd (show C = crcSteps (C0 ^^^ N0) 8 by
            have h0 : N0 / 2 ^ 8 = 0 := Nat.div_eq_of_lt HB.out
            rw [h0, Nat.xor_zero] at hq
            exact hq)
          clear hq
          go_wp2_with fail
          go_round
          case rel => exact ⟨j + 1, by omega, by go_num, by rw [HN.out, HQ.out]⟩
          case measure => simp [intOf]; omega
    · obtain rfl : j = l.length := by omega
      rw [List.take_length]
      have HML := hd (foldMore_lt l 4294967295 (by omega))
      generalize l.foldl moreN 4294967295 = C at *
      have hlt := HML.out
      go_wp2_with fail
      go_ret
      rw [HS.out]
      exact ⟨congrArg (fun z => Ending.returned (Value.int .u32 z)) (by omega), rfl⟩
end Go.Proofs.Ytjaoiaknglnomaa

/-
  chatelaineref02.Frame and chatelaineref12.Spell, walked: they answer as seal.Frame and twin.spell. Condition: texts of sizes that there are.
-/
set_option linter.unusedVariables false
set_option linter.unusedSimpArgs false
set_option maxRecDepth 100000
namespace Go.Proofs.Ytjaoiaknglnomaa
open Go.RowKit

theorem refDigits3_any (x : Nat) (w : World) (hx : x < 4294967296) :
    Calls Try.prog 69 #[.int .u32 x, .int .i64 3] w fun e w' => e = .returned (.string (txt (wideOf x 3))) ∧ Upd [] w w' := refDigits_any x 3 w hx (by decide)
theorem refDigits4_any (x : Nat) (w : World) (hx : x < 4294967296) :
    Calls Try.prog 69 #[.int .u32 x, .int .i64 4] w fun e w' => e = .returned (.string (txt (wideOf x 4))) ∧ Upd [] w w' := refDigits_any x 4 w hx (by decide)

set_option maxHeartbeats 4000000 in
theorem refFrame_any (s : List UInt8) (w : World) (hs : s.length ≤ 1048576) :
    Calls Try.prog 43 #[.int .u8 1, .string (txt s)] w fun x w' => x = .returned (.string (txt (frameL 1 s))) ∧ Upd [] w w' := by
  have hwr : IntKind.u32.wrap (s.length : Int) = s.length := by rw [IntKind.wrap_u32]; omega
  have HD3 := hd (fun W => refDigits3_any s.length W (by omega))
  go_enter Try.func43, Try.ntmps43
  go_wp2_with fail
  have hcv : ∀ (k : Nat) (W : World), W.cell? ⟨k, 0, none⟩ = some (.int .u8 1) → (Go.convert 47 9 (.slice (some ⟨k, 0, none⟩) 1 1)).run Try.prog W = .ok (.string (txt [1])) W := fun k W h => by
    have hr := run_convert_bytes_arg (P := Try.prog) W 47 5 Try.underlying47 Try.underlying5 k 0 1 1 [1] rfl (fun i hi => by
      obtain rfl : i = 0 := by omega
      simpa using h) 9 Try.underlying9
    rw [show strOfNums [1] = txt [1] from rfl] at hr
    exact hr
  have hs1 := add_txt' [1] (wideOf s.length 3) (by simp [wideOf_length])
  have hs2 := add_txt' (1 :: wideOf s.length 3) s (by simp [wideOf_length]; omega)
  simp only [List.cons_append, List.nil_append] at hs1 hs2
  go_cut [5] from 6 to 16 (fun s5 wx => s5 = .string (txt (1 :: (wideOf s.length 3 ++ s))) ∧ Upd [] w wx)
  case first =>
    go_region_with (first
      | ((with_reducible refine (HD3.out (World.drew (World.alloc _ _))).mono ?_); rintro x w2 ⟨rfl, hu2⟩; have hcz := Blk.upd (Blk.drew (Blk.new _ _ _)) hu2 (by simp); have hcv2 := hcv _ _ (hcz.cell 0))
      | ((with_reducible refine (HD3.out _).mono ?_); rintro x w2 ⟨rfl, hu2⟩))
    all_goals
      go_wp2_with fail
      go_meet
      case rel => exact ⟨rfl, by repeat (first | with_reducible exact Upd.refl _ _ | with_reducible refine Upd.drew ?_ | with_reducible refine Upd.alloc ?_ _ | with_reducible refine Upd.trans ?_ hu2)⟩
  case rest =>
    obtain ⟨rfl, hu⟩ := hcut
    have HB := hd (show bodyL 1 s = 1 :: (wideOf s.length 3 ++ s) from rfl)
    have HFR := hd (show frameL 1 s = bodyL 1 s ++ wideOf (sumN (bodyL 1 s)) 4 from rfl)
    rw [← HB.out]
    have hbl : (bodyL 1 s).length ≤ 1048580 := by rw [HB.out]; simp [wideOf_length]; omega
    have HU := hd hu
    clear hs1 hs2 hcv hwr HD3 hu HB
    have HSL := hd (sumN_lt (bodyL 1 s))
    generalize bodyL 1 s = bl at *
    have HSM := hd (fun (W : World) => refSum_any bl W (by omega))
    have HD4 := hd (fun W => refDigits4_any (sumN bl) W HSL.out)
    have hs3 := add_txt' bl (wideOf (sumN bl) 4) (by rw [wideOf_length]; omega)
    go_wp2_with fail
    refine (HSM.out _).mono ?_
    rintro x w1 ⟨rfl, rfl⟩
    generalize sumN bl = sm at *
    go_wp2_with fail
    refine (HD4.out _).mono ?_
    rintro x w2 ⟨rfl, hu2⟩
    go_wp2_with fail
    go_ret
    rw [HFR.out]
    exact ⟨rfl, HU.out.trans hu2⟩

set_option maxHeartbeats 2000000 in
theorem refSpell_any (v : Nat) (s : List UInt8) (w : World) (hv : v < 18446744073709551616) (hs : s.length ≤ 1000000) :
    Calls Try.prog 32 #[.int .u64 v, .string (txt s)] w fun x w' => x = .returned (.string (txt (spellL v s))) ∧ Upd [] w w' := by
  have hul := uBytes_le v
  have hnl := nBytes_le (s.length : Int)
  have HV := hd hv
  have hln : (uBytes v ++ sBytes (txt s)).length ≤ 1048576 := by rw [sBytes_txt]; simp only [List.length_append]; omega
  have HSP := hd (show spellL v s = frameL 1 (uBytes v ++ sBytes (txt s)) by rw [sBytes_txt]; rfl)
  have hs1 := add_txt' (uBytes v) (sBytes (txt s)) (by rw [List.length_append] at hln; omega)
  have HF := hd (fun W => refFrame_any (uBytes v ++ sBytes (txt s)) W hln)
  have HS := hd (fun W => refS_any (txt s) W (by rw [txt_size]; omega))
  generalize sBytes (txt s) = sb at *
  clear hv hln
  go_enter Try.func32, Try.ntmps32
  go_wp2_with fail
  refine (refU_any v w HV.out).mono ?_
  rintro x w1 ⟨rfl, hu1⟩
  go_wp2_with fail
  refine (HS.out w1).mono ?_
  rintro x w2 ⟨rfl, hu2⟩
  go_wp2_with fail
  refine (HF.out w2).mono ?_
  rintro x w3 ⟨rfl, hu3⟩
  go_wp2_with fail
  go_ret
  rw [HSP.out]
  exact ⟨rfl, (hu1.trans hu2).trans hu3⟩
end Go.Proofs.Ytjaoiaknglnomaa
