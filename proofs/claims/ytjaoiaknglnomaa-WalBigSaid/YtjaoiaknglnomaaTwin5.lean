/-
  twin.Open, walked. Conditions: a disk as it may be, a place that there is.
-/
import Derived.Test.YtjaoiaknglnomaaTwin4
import Derived.BigRegion
set_option linter.unusedVariables false
set_option linter.unusedSimpArgs false
set_option maxRecDepth 100000
namespace Go.Proofs.Ytjaoiaknglnomaa
open Go.RowKit

theorem parseL_fine (s : List UInt8) : (parseL s).version < 18446744073709551616 ∧ (parseL s).text.length ≤ 524288 := by
  unfold parseL
  by_cases h : s = []
  · rw [if_pos h]
    exact ⟨by decide, by decide⟩
  · rw [if_neg h]
    dsimp only
    split
    · refine ⟨U_lt _, ?_⟩
      have h1 := (take_le (((RdS.U ⟨(openL s).2.1, 0⟩).2.N 524288).2) ((RdS.U ⟨(openL s).2.1, 0⟩).2.N 524288).1.toNat).1
      have h2 : ((RdS.U ⟨(openL s).2.1, 0⟩).2.N 524288).1 ≤ 524288 := by
        unfold RdS.N
        split
        · exact (by decide : (0 : Int) ≤ 524288)
        · dsimp only; omega
      show (RdS.take ((RdS.U ⟨(openL s).2.1, 0⟩).2.N 524288).2 ((RdS.U ⟨(openL s).2.1, 0⟩).2.N 524288).1.toNat).1.length ≤ 524288
      omega
    · exact ⟨by decide, by decide⟩

/-- What Open answers, and leaves: a version (if there is a cell), the text, the error, the disk. -/
def DiskS.openIt (d : DiskS) (first : Int) : Option Nat × List UInt8 × Int × DiskS :=
  let a := parseL (d.file first)
  let b := parseL (d.file (first + 1))
  if b.bad = true ∧ a.version = 0 then (none, [], 7, d)
  else if a.version = 0 ∧ b.version = 0 then (some 0, [], 0, d)
  else
    let best := if a.version < b.version then b else a
    let m := d.mendIt first a b best
    if m.1 ≠ 0 then (none, [], m.1, m.2) else (some best.version, best.text, 0, m.2)

/-- What Open answers, as values. -/
def OpenOut (B : Nat) (first : Int) (bd : Nat) (o : Option Nat × List UInt8 × Int × DiskS) (x : Ending) (w : World) : Prop :=
  match o.1 with
  | none => x = .returned (.tuple #[.pointer none, .string (txt o.2.1), .int .i64 o.2.2.1])
  | some v => ∃ kc, B ≤ kc ∧ x = .returned (.tuple #[.pointer (some ⟨kc, 0, none⟩), .string (txt o.2.1), .int .i64 o.2.2.1]) ∧ CellAt w kc bd first v

set_option maxHeartbeats 8000000 in
theorem topen_any (d : DiskS) (first : Int) (bd : Nat) (w : World) (hd' : DiskAt w bd d) (hf : d.fine) (hf0 : 0 ≤ first) (hf1 : first ≤ 2) :
    Calls Try.prog 26 #[.pointer (some ⟨bd, 0, none⟩), .int .i64 first] w fun x w' =>
      OpenOut w.heap.size first bd (d.openIt first) x w' ∧ Upd [bd] w w' ∧ DiskAt w' bd (d.openIt first).2.2.2 := by
  have hbl := hd'.lt
  have e1 : ∃ W, w.alloc (.cells #[.pointer (some ⟨bd, 0, none⟩), .int .i64 first, .int .u64 0] 101) = W ∧ Upd [] w W ∧ CellAt W w.heap.size bd first 0 ∧ W.heap.size = w.heap.size + 1 := ⟨_, rfl, (Upd.refl _ _).alloc _, Blk.new _ _ _, by simp⟩
  have HD := hd hd'
  have HF := hd hf
  have HOI := hd (show d.openIt first = if (parseL (d.file (first + 1))).bad = true ∧ (parseL (d.file first)).version = 0 then (none, [], 7, d)
    else if (parseL (d.file first)).version = 0 ∧ (parseL (d.file (first + 1))).version = 0 then (some 0, [], 0, d)
    else if (d.mendIt first (parseL (d.file first)) (parseL (d.file (first + 1))) (if (parseL (d.file first)).version < (parseL (d.file (first + 1))).version then parseL (d.file (first + 1)) else parseL (d.file first))).1 ≠ 0
      then (none, [], (d.mendIt first (parseL (d.file first)) (parseL (d.file (first + 1))) (if (parseL (d.file first)).version < (parseL (d.file (first + 1))).version then parseL (d.file (first + 1)) else parseL (d.file first))).1, (d.mendIt first (parseL (d.file first)) (parseL (d.file (first + 1))) (if (parseL (d.file first)).version < (parseL (d.file (first + 1))).version then parseL (d.file (first + 1)) else parseL (d.file first))).2)
      else (some (if (parseL (d.file first)).version < (parseL (d.file (first + 1))).version then parseL (d.file (first + 1)) else parseL (d.file first)).version, (if (parseL (d.file first)).version < (parseL (d.file (first + 1))).version then parseL (d.file (first + 1)) else parseL (d.file first)).text, 0, (d.mendIt first (parseL (d.file first)) (parseL (d.file (first + 1))) (if (parseL (d.file first)).version < (parseL (d.file (first + 1))).version then parseL (d.file (first + 1)) else parseL (d.file first))).2) from rfl)
  have HRD := hd (fun (X : World) (k : Nat) (h1 : DiskAt X bd d) (h2 : CellAt X k bd first 0) => cread_any d first 0 k bd X h1 h2 hf hf0 hf1)
  have HPA := hd (parseL_fine (d.file first))
  have HPB := hd (parseL_fine (d.file (first + 1)))
  generalize parseL (d.file (first + 1)) = b at *
  generalize parseL (d.file first) = a at *
  clear hd' hf
  go_enter Try.func26, Try.ntmps26
  go_upto_region 4 with fail
  obtain ⟨W, hW, hu, hC, hsz⟩ := e1
  rw [hW]
  clear hW
  have HU := hd hu
  have HC := hd hC
  have HDW := hd (HD.out.upd hu (by simp))
  have HRW := hd (fun (X : World) (hx : Upd [] W X) => HRD.out X w.heap.size (HDW.out.upd hx (by simp)) (hC.upd hx (by simp)))
  clear hu hC
  go_wp2_with fail
  refine (HRW.out W (Upd.refl _ _)).mono ?_
  rintro x w1 ⟨rfl, hu1⟩
  have HU1 := hd (HU.out.trans hu1)
  have HD1 := hd (HDW.out.upd hu1 (by simp))
  have HC1 := hd (HC.out.upd hu1 (by simp))
  have hs1 := hu1.size
  have hlt1 : w.heap.size < w1.heap.size := by omega
  clear hu1 hs1 hsz HU HC HDW HRW HRD
  have e2 := two_new2 w1 #[.int .u64 a.version, .string (txt a.text), .bool a.bad] #[.int .u64 b.version, .string (txt b.text), .bool b.bad] 103 103
  go_upto_block 0 with fail
  obtain ⟨W2, hW2, hu2, hA, hB, hsz2⟩ := e2
  rw [hW2]
  clear hW2
  have HU2 := hd (HU1.out.trans hu2)
  have HD2 := hd (HD1.out.upd hu2 (by simp))
  have HC2 := hd (HC1.out.upd hu2 (by simp))
  have HA := hd hA
  have HB := hd hB
  have hac := hA.cell
  have hbc := hB.cell
  clear hu2 hA hB HU1 HD1 HC1
  go_cut [] from 22 to 44 (fun wx => W2 = wx ∧ ¬ (b.bad = true ∧ a.version = 0) ∧ ¬ (a.version = 0 ∧ b.version = 0))
  case first =>
    by_cases ha : a.version = 0
    · have ha' : (a.version : Int) = 0 := by omega
      rcases hbb : b.bad with _ | _
      · rw [hbb] at hbc
        by_cases hbv : b.version = 0
        · have hbv' : (b.version : Int) = 0 := by omega
          have HE := hd (show d.openIt first = (some 0, [], 0, d) by rw [HOI.out, if_neg (by simp [hbb]), if_pos ⟨ha, hbv⟩])
          clear ha hbv hbb
          go_wp2_with fail
          refine bodyPost_ret (v := .tuple #[.pointer (some ⟨w.heap.size, 0, none⟩), .string ⟨#[]⟩, .int .i64 0]) (by simp [results, Try.results26, go_sem]) rfl ?_
          rw [HE.out]
          exact ⟨⟨_, Nat.le_refl _, rfl, HC2.out⟩, HU2.out.mono (by simp), HD2.out⟩
        · have hbv' : ¬ ((b.version : Int) = 0) := by omega
          have HE := hd (show ¬ (b.bad = true ∧ a.version = 0) ∧ ¬ (a.version = 0 ∧ b.version = 0) from ⟨by simp [hbb], fun h => hbv h.2⟩)
          clear ha hbv hbb
          go_wp2_with fail
          go_meet
          case rel => exact ⟨rfl, HE.out⟩
      · rw [hbb] at hbc
        have HE := hd (show d.openIt first = (none, [], 7, d) by rw [HOI.out, if_pos ⟨hbb, ha⟩])
        clear ha hbb
        go_wp2_with fail
        refine bodyPost_ret (v := .tuple #[.pointer none, .string ⟨#[]⟩, .int .i64 7]) (by simp [results, Try.results26, go_sem]) rfl ?_
        rw [HE.out]
        exact ⟨rfl, HU2.out.mono (by simp), HD2.out⟩
    · have ha' : ¬ ((a.version : Int) = 0) := by omega
      have HE := hd (show ¬ (b.bad = true ∧ a.version = 0) ∧ ¬ (a.version = 0 ∧ b.version = 0) from ⟨fun h => ha h.2, fun h => ha h.1⟩)
      rcases hbb : b.bad with _ | _
      · rw [hbb] at hbc
        clear ha hbb
        go_wp2_with fail
        go_meet
        case rel => exact ⟨rfl, HE.out⟩
      · rw [hbb] at hbc
        clear ha hbb
        go_wp2_with fail
        go_meet
        case rel => exact ⟨rfl, HE.out⟩
  case rest =>
    obtain ⟨rfl, hn1, hn2⟩ := hcut
    rw [if_neg hn1, if_neg hn2] at HOI
    have hl2 : w.heap.size < W2.heap.size ∧ w1.heap.size < W2.heap.size ∧ w1.heap.size + 1 < W2.heap.size := by omega
    clear hn1 hn2 hsz2
    have e3 : ∃ W, W2.alloc (.cells #[.int .u64 a.version, .string (txt a.text), .bool a.bad] 103) = W ∧ Upd [] W2 W ∧ Blk W W2.heap.size #[.int .u64 a.version, .string (txt a.text), .bool a.bad] 103 := ⟨_, rfl, (Upd.refl _ _).alloc _, Blk.new _ _ _⟩
    go_upto_region 10 with fail
    obtain ⟨W3, hW3, hu3, hR⟩ := e3
    rw [hW3]
    clear hW3
    have HU3 := hd (HU2.out.trans hu3)
    have HD3 := hd (HD2.out.upd hu3 (by simp))
    have HC3 := hd (HC2.out.upd hu3 (by simp))
    have HA3 := hd (HA.out.upd hu3 (by simp))
    have HB3 := hd (HB.out.upd hu3 (by simp))
    have HR3 := hd hR
    have hac3 := HA3.out.cell
    have hbc3 := HB3.out.cell
    clear hu3 hR HU2 HD2 HC2 HA HB hac hbc
    go_cut [50] from 46 to 51 (fun s50 wx => W3 = wx ∧ s50 = .bool (decide (a.version < b.version)))
    case first =>
      go_wp2_with fail
      go_meet
      case rel => exact ⟨rfl, rfl⟩
    case rest =>
      obtain ⟨rfl, rfl⟩ := hcut
      go_upto_if 50 with fail
      go_cut [] from 50 to 52 (fun wx => Upd [W2.heap.size] W3 wx ∧ Blk wx W2.heap.size #[.int .u64 (if a.version < b.version then b else a).version, .string (txt (if a.version < b.version then b else a).text), .bool (if a.version < b.version then b else a).bad] 103)
      case first =>
        by_cases hab : a.version < b.version
        · have hab' : (a.version : Int) < b.version := by omega
          have HAB := hd hab
          have hrz := HR3.out.frozen
          have hrc := HR3.out.cell
          obtain ⟨W4, hW4, hu4, hR4⟩ := set3 HR3.out (.int .u64 b.version) (.string (txt b.text)) (.bool b.bad)
          have HU4 := hd hu4
          have HR4 := hd hR4
          clear hab hu4 hR4
          go_wp2_with fail
          go_meet
          case rel => rw [if_pos HAB.out]; exact ⟨HU4.out, HR4.out⟩
        · have hab' : ¬ ((a.version : Int) < b.version) := by omega
          have HAB := hd hab
          clear hab
          go_wp2_with fail
          go_meet
          case rel => rw [if_neg HAB.out]; exact ⟨Upd.refl _ _, HR3.out⟩
      case rest =>
        obtain ⟨hu4, hR4⟩ := hcut
        have HU4 := hd (HU3.out.trans' hu4 (by intro i hi; simp at hi; omega))
        have HD4 := hd (HD3.out.upd hu4 (by simp; omega))
        have HC4 := hd (HC3.out.upd hu4 (by simp; omega))
        have HA4 := hd (HA3.out.upd hu4 (by simp; omega))
        have HB4 := hd (HB3.out.upd hu4 (by simp; omega))
        have hbf : (if a.version < b.version then b else a).version < 18446744073709551616 ∧ (if a.version < b.version then b else a).text.length ≤ 524288 := by
          split
          · exact HPB.out
          · exact HPA.out
        generalize (if a.version < b.version then b else a) = best at *
        have HR4 := hd hR4
        have HBF := hd hbf
        have hac4 := HA4.out.cell
        have hbc4 := HB4.out.cell
        have hrc4 := HR4.out.cell
        clear hu4 hR4 hbf HU3 HD3 HC3 HA3 HB3 HR3 hac3 hbc3
        go_wp2_with fail
        refine (cmend_any d first 0 a b best w.heap.size bd wc HD4.out HC4.out HF.out hf0 hf1 HBF.out.1 (by have := HBF.out.2; omega)).mono ?_
        rintro x w5 ⟨rfl, hu5, hd5⟩
        generalize hm : d.mendIt first a b best = m at *
        obtain ⟨e, D⟩ := m
        simp only at hd5 HOI
        have HU5 := hd ((HU4.out.mono (by simp)).trans hu5)
        have HD5 := hd hd5
        have hR5 := HR4.out.upd hu5 (by simp; omega)
        have HC5 := hd (HC4.out.upd hu5 (by simp; omega))
        clear hu5 hd5 hm HU4 HD4 HC4 HA4 HB4 HR4 hac4 hbc4 hrc4
        by_cases he : e = 0
        · have HE := hd he
          have HO := hd (show d.openIt first = (some best.version, best.text, 0, D) by rw [HOI.out, if_neg (fun h => h he)])
          have hrc5 := hR5.cell
          have HR5 := hd hR5
          have hcz := HC5.out.frozen
          have hcc := HC5.out.cell
          have he' : (e != 0) = false := by simp [he]
          clear hR5 he
          go_upto_region 16 with fail
          have e6 : ∃ W, w5.setCell ⟨w.heap.size, 2, none⟩ (.int .u64 best.version) = W ∧ Upd [bd] w W ∧ DiskAt W bd D ∧ CellAt W w.heap.size bd first best.version ∧ Blk W W2.heap.size #[.int .u64 best.version, .string (txt best.text), .bool best.bad] 103 :=
            ⟨_, rfl, HU5.out.trans' ((Upd.refl [w.heap.size] w5).setCell (by simp) _) (by intro i hi; simp at hi; omega), HD5.out.set_other (by simp; omega) _, HC5.out.set 2 _, HR5.out.set_other (by simp; omega) _⟩
          obtain ⟨W6, hW6, hu6, hd6, hc6, hr6⟩ := e6
          rw [hW6]
          have hrc6 := hr6.cell
          have HE6 := hd (show Upd [bd] w W6 ∧ DiskAt W6 bd D ∧ CellAt W6 w.heap.size bd first best.version from ⟨hu6, hd6, hc6⟩)
          clear hW6 hu6 hd6 hc6 hr6 hrc5 hcz hcc
          go_region_with fail
          all_goals
            go_wp2_with fail
            refine bodyPost_ret (v := .tuple #[.pointer (some ⟨w.heap.size, 0, none⟩), .string (txt best.text), .int .i64 0]) (by simp [results, Try.results26, go_sem]) rfl ?_
            rw [HO.out]
            obtain ⟨q1, q2, q3⟩ := HE6.out
            first
            | exact ⟨⟨_, Nat.le_refl _, rfl, q3⟩, q1, q2⟩
            | exact ⟨⟨_, Nat.le_refl _, rfl, q3.drew⟩, q1.drew, q2.drew⟩
        · have he' : (e != 0) = true := by simpa using he
          have HO := hd (show d.openIt first = (none, [], e, D) by rw [HOI.out, if_pos he])
          clear hR5 he
          go_wp2_with fail
          refine bodyPost_ret (v := .tuple #[.pointer none, .string ⟨#[]⟩, .int .i64 e]) (by simp [results, Try.results26, go_sem]) rfl ?_
          rw [HO.out]
          exact ⟨rfl, HU5.out, HD5.out⟩
end Go.Proofs.Ytjaoiaknglnomaa
