/-
  twin.Cell.mend, Version and Write, walked. Conditions: a disk as it may be, texts of sizes that there are.
-/
import Derived.Test.YtjaoiaknglnomaaWm7
import Derived.Deep.Cut
import Derived.Deep.CutRange
import Derived.Deep.CutBlock
set_option linter.unusedVariables false
set_option linter.unusedSimpArgs false
set_option maxRecDepth 100000
namespace Go.Proofs.Ytjaoiaknglnomaa
open Go.RowKit

theorem lay_fine (d : DiskS) (f : Int) (v : Nat) (s : List UInt8) (h : d.fine) (hs : s.length ≤ 1000000) : (d.layIt f v s).2.fine := by
  have hl := spellL_len v s hs
  have hp := put_fine d f (txt (spellL v s)) h (by simp; omega)
  unfold DiskS.layIt
  split
  · exact sync_fine _ f hp
  · exact hp
theorem three_new (w : World) (A B C : Array Value) (TA TB TC : TypeId) : ∃ W, ((w.alloc (.cells A TA)).alloc (.cells B TB)).alloc (.cells C TC) = W ∧ Upd [] w W ∧ Blk W w.heap.size A TA ∧ Blk W (w.heap.size + 1) B TB ∧ Blk W (w.heap.size + 1 + 1) C TC ∧ W.heap.size = w.heap.size + 3 :=
  ⟨_, rfl, (((Upd.refl _ _).alloc _).alloc _).alloc _, ((Blk.new _ _ _).alloc _).alloc _, (Blk.new' (w.alloc _) _ _ (by simp)).alloc _, Blk.new' _ _ _ (by simp), by simp⟩
theorem txt_inj {a b : List UInt8} (h : txt a = txt b) : a = b := by
  have := congrArg ByteArray.toList h
  rwa [txt_list, txt_list] at this
theorem half_ne {a b : HalfS} (h : a ≠ b) : ((a.version : Int) == (b.version : Int) && ((txt a.text).toList == (txt b.text).toList && a.bad == b.bad)) = false := by
  obtain ⟨av, at', ab⟩ := a
  obtain ⟨bv, bt, bb⟩ := b
  simp only [ne_eq, HalfS.mk.injEq] at h
  simp only [txt_list, Bool.and_eq_false_iff, beq_eq_false_iff_ne, ne_eq]
  by_cases h1 : av = bv
  · by_cases h2 : at' = bt
    · by_cases h3 : ab = bb
      · exact absurd ⟨h1, h2, h3⟩ h
      · exact .inr (.inr h3)
    · exact .inr (.inl h2)
  · exact .inl (by omega)

def neB (a b : HalfS) : Bool := decide (a ≠ b)
theorem neB_no {a b : HalfS} (h : a = b) : neB a b = false := by simp [neB, h]
theorem neB_yes {a b : HalfS} (h : a ≠ b) : neB a b = true := by simp [neB, h]
theorem neB_of {a b : HalfS} (h : neB a b = true) : a ≠ b := by simpa [neB] using h
theorem neB_not {a b : HalfS} (h : neB a b = false) : a = b := by simpa [neB] using h
def DiskS.mendIt (d : DiskS) (first : Int) (a b best : HalfS) : Int × DiskS :=
  let s1 := if a ≠ best then d.layIt first best.version best.text else (0, d)
  if s1.1 ≠ 0 then s1 else if b ≠ best then s1.2.layIt (first + 1) best.version best.text else (0, s1.2)

set_option maxHeartbeats 4000000 in
theorem cmend_any (d : DiskS) (first : Int) (ver : Nat) (a b best : HalfS) (kc bd : Nat) (w : World) (hd' : DiskAt w bd d) (hc : CellAt w kc bd first ver) (hf : d.fine) (hf0 : 0 ≤ first) (hf1 : first ≤ 2) (hv : best.version < 18446744073709551616) (hs : best.text.length ≤ 1000000) :
    Calls Try.prog 58 #[.pointer (some ⟨kc, 0, none⟩), .agg #[.int .u64 a.version, .string (txt a.text), .bool a.bad], .agg #[.int .u64 b.version, .string (txt b.text), .bool b.bad], .agg #[.int .u64 best.version, .string (txt best.text), .bool best.bad]] w fun x w' =>
      x = .returned (.int .i64 (d.mendIt first a b best).1) ∧ Upd [bd] w w' ∧ DiskAt w' bd (d.mendIt first a b best).2 := by
  have e3 := three_new w #[.int .u64 a.version, .string (txt a.text), .bool a.bad] #[.int .u64 b.version, .string (txt b.text), .bool b.bad] #[.int .u64 best.version, .string (txt best.text), .bool best.bad] 103 103 103
  have hne : kc ≠ bd := blk_ne hc hd' (by decide)
  have hbl := hd'.lt
  have hcl := hc.lt
  have hw1 : IntKind.i64.wrap (first + 1) = first + 1 := by rw [IntKind.wrap_i64]; omega
  have HLAY := hd (fun (D : DiskS) (hD : D.fine) (f : Int) (W : World) (h1 : DiskAt W bd D) (h2 : CellAt W kc bd first ver) => clay_any D first f ver best.version best.text kc bd W h1 h2 hD hv hs)
  have hlf := fun f => lay_fine d f best.version best.text hf hs
  have HLF := hd hlf
  have HF := hd hf
  have key : ∀ x : HalfS, x = best ∨ (x ≠ best ∧ x.version ≠ best.version) ∨ (x ≠ best ∧ x.version = best.version ∧ x.text ≠ best.text) ∨ (x ≠ best ∧ x.version = best.version ∧ x.text = best.text ∧ x.bad ≠ best.bad) := fun x => by
    by_cases h0 : x = best
    · exact .inl h0
    · by_cases h1 : x.version = best.version
      · by_cases h2 : x.text = best.text
        · by_cases h3 : x.bad = best.bad
          · exfalso
            obtain ⟨xv, xt, xb⟩ := x
            obtain ⟨yv, yt, yb⟩ := best
            simp only at h1 h2 h3
            exact h0 (by rw [h1, h2, h3])
          · exact .inr (.inr (.inr ⟨h0, h1, h2, h3⟩))
        · exact .inr (.inr (.inl ⟨h0, h1, h2⟩))
      · exact .inr (.inl ⟨h0, h1⟩)
  have HMI := hd (show d.mendIt first a b best = if (if a ≠ best then d.layIt first best.version best.text else (0, d)).1 ≠ 0 then (if a ≠ best then d.layIt first best.version best.text else (0, d)) else if b ≠ best then (if a ≠ best then d.layIt first best.version best.text else (0, d)).2.layIt (first + 1) best.version best.text else (0, (if a ≠ best then d.layIt first best.version best.text else (0, d)).2) from rfl)
  have HKEY := hd key
  have HDC := hd (show DiskAt w bd d ∧ CellAt w kc bd first ver from ⟨hd', hc⟩)
  clear hlf key hd' hc hf
  go_enter Try.func58, Try.ntmps58
  go_upto_region 1 with fail
  obtain ⟨W, hW, hu, hA, hB, hC, hsz⟩ := e3
  rw [hW]
  clear hW
  have HU := hd hu
  have HA := hd hA
  have HB := hd hB
  have HC := hd hC
  have HD := hd (HDC.out.1.upd hu (by simp))
  have HCE := hd (HDC.out.2.upd hu (by simp))
  have HKS := hd (show ∀ X, Upd [bd] W X → Upd [bd] W X ∧ (∀ o, X.cell? ⟨kc, o, none⟩ = #[.pointer (some ⟨bd, 0, none⟩), .int .i64 first, .int .u64 ver][o]?) ∧ (∀ o, X.cell? ⟨w.heap.size + 1 + 1, o, none⟩ = #[.int .u64 best.version, .string (txt best.text), .bool best.bad][o]?) from fun X hx => ⟨hx, (HCE.out.upd hx (by simpa using hne)).cell, (HC.out.upd hx (by simp; omega)).cell⟩)
  have HL1 := hd (fun (X : World) (hx : Upd [] W X) => HLAY.out d HF.out first X (HD.out.upd hx (by simp)) (HCE.out.upd hx (by simp)))
  have hac := hA.cell
  have hbc := hB.cell
  have hcc := hC.cell
  clear hu hA hB hC
  go_cut [12] from 10 to 12 (fun s12 wx => s12 = .bool (neB a best) ∧ W = wx)
  case first =>
    rcases HKEY.out a with h0 | ⟨h0, h1⟩ | ⟨h0, h1, h2⟩ | ⟨h0, h1, h2, h3⟩
    · have H0 := hd h0
      have hac' : ∀ o, W.cell? ⟨w.heap.size, o, none⟩ = #[.int .u64 best.version, .string (txt best.text), .bool best.bad][o]? := by rw [← h0]; exact hac
      clear hac h0 hbc
      go_wp2_with fail
      go_meet
      case rel => exact ⟨by rw [neB_no H0.out], rfl⟩
    · have H0 := hd h0
      have q1 : ¬ ((a.version : Int) = (best.version : Int)) := by omega
      have q1' : ((a.version : Int) == (best.version : Int)) = false := by simpa using q1
      clear h0 hbc
      go_wp2_with fail
      go_meet
      case rel => exact ⟨by rw [neB_yes H0.out], rfl⟩
    · have H0 := hd h0
      have q1 : ((a.version : Int) == (best.version : Int)) = true := by simp [h1]
      have q2 : ¬ ((txt a.text).toList = (txt best.text).toList) := by rw [txt_list, txt_list]; exact h2
      have q2' : ((txt a.text).toList == (txt best.text).toList) = false := by simpa using q2
      clear h0 hbc
      go_wp2_with fail
      go_meet
      case rel => exact ⟨by rw [neB_yes H0.out], rfl⟩
    · have H0 := hd h0
      have q1 : ((a.version : Int) == (best.version : Int)) = true := by simp [h1]
      have q2 : ((txt a.text).toList == (txt best.text).toList) = true := by simp [h2]
      have q3 : (a.bad == best.bad) = false := by simpa using h3
      have q3' : ¬ (a.bad = best.bad) := h3
      clear h0 hbc
      go_wp2_with fail
      go_meet
      case rel => exact ⟨by rw [neB_yes H0.out], rfl⟩
  case rest =>
   obtain ⟨rfl, rfl⟩ := hcut
   go_upto_if 12 with fail
   go_cut [] from 12 to 25 (fun wx => (if a ≠ best then d.layIt first best.version best.text else (0, d)).1 = 0 ∧ Upd [bd] W wx ∧ DiskAt wx bd (if a ≠ best then d.layIt first best.version best.text else (0, d)).2)
   case first =>
    go_wp2_with fail
    · have H0 := hd (neB_of (show neB a best = true by assumption))
      go_region_held3 (fun X => Upd [bd] W X ∧ (∀ o, X.cell? ⟨kc, o, none⟩ = #[.pointer (some ⟨bd, 0, none⟩), .int .i64 first, .int .u64 ver][o]?) ∧ (∀ o, X.cell? ⟨w.heap.size + 1 + 1, o, none⟩ = #[.int .u64 best.version, .string (txt best.text), .bool best.bad][o]?))
        ((refine HKS.out _ ?_; (try go_split_ands); repeat (first | with_reducible assumption | with_reducible exact hup9 | with_reducible exact Upd.refl _ _ | with_reducible refine Upd.drew ?_)))
        (first
        | ((with_reducible refine (HL1.out _ (by repeat (first | with_reducible exact Upd.refl _ _ | with_reducible refine Upd.drew ?_))).mono ?_); rintro x w9 ⟨rfl, hu9, hd9⟩; have hup9 : Upd [bd] W w9 := Upd.trans (by repeat (first | with_reducible exact Upd.refl _ _ | with_reducible refine Upd.drew ?_)) hu9))
      by_cases he : (d.layIt first best.version best.text).1 = 0
      · have he' : ((d.layIt first best.version best.text).1 != 0) = false := by simp [he]
        have HE := hd he
        clear he
        go_wp2_with fail
        go_meet
        case rel => rw [if_pos H0.out]; exact ⟨HE.out, hup9, hd9⟩
      · have he' : ((d.layIt first best.version best.text).1 != 0) = true := by simpa using he
        have HE := hd he
        clear he
        go_wp2_with fail
        go_ret
        rw [HMI.out, if_pos (by rw [if_pos H0.out]; exact HE.out), if_pos H0.out]
        exact ⟨rfl, (HU.out.mono (by simp)).trans hup9, hd9⟩
    · have H0 := hd (neB_not (show neB a best = false by assumption))
      go_meet
      case rel => rw [if_neg (by simp [H0.out])]; exact ⟨rfl, Upd.refl _ _, HD.out⟩
   case rest =>
    obtain ⟨hs1, hux, hdx⟩ := hcut
    have HMJ := hd (show d.mendIt first a b best = if b ≠ best then (if a ≠ best then d.layIt first best.version best.text else (0, d)).2.layIt (first + 1) best.version best.text else (0, (if a ≠ best then d.layIt first best.version best.text else (0, d)).2) by rw [HMI.out, if_neg (fun h => h hs1)])
    have hfx : (if a ≠ best then d.layIt first best.version best.text else (0, d)).2.fine := by
      split
      · exact HLF.out first
      · exact HF.out
    generalize (if a ≠ best then d.layIt first best.version best.text else (0, d)).2 = D at *
    have HX := hd hux
    have HDX := hd hdx
    have HKT := hd (show ∀ X, Upd [bd] wc X → Upd [bd] wc X ∧ (∀ o, X.cell? ⟨kc, o, none⟩ = #[.pointer (some ⟨bd, 0, none⟩), .int .i64 first, .int .u64 ver][o]?) ∧ (∀ o, X.cell? ⟨w.heap.size + 1 + 1, o, none⟩ = #[.int .u64 best.version, .string (txt best.text), .bool best.bad][o]?) from fun X hx => ⟨hx, (HKS.out X (hux.trans hx)).2.1, (HKS.out X (hux.trans hx)).2.2⟩)
    have HL2 := hd (fun (X : World) (hx : Upd [] wc X) => HLAY.out D hfx (first + 1) X (hdx.upd hx (by simp)) ((HCE.out.upd hux (by simpa using hne)).upd hx (by simp)))
    have hbc := (HB.out.upd hux (by simp; omega)).cell
    have hcc := (HC.out.upd hux (by simp; omega)).cell
    clear hac hs1 hux hdx hfx HKS HL1 HMI
    go_upto_region 5 with fail
    go_cut [28] from 26 to 28 (fun s28 wx => s28 = .bool (neB b best) ∧ wc = wx)
    case first =>
      rcases HKEY.out b with h0 | ⟨h0, h1⟩ | ⟨h0, h1, h2⟩ | ⟨h0, h1, h2, h3⟩
      · have H0 := hd h0
        have hbc' : ∀ o, wc.cell? ⟨w.heap.size + 1, o, none⟩ = #[.int .u64 best.version, .string (txt best.text), .bool best.bad][o]? := by rw [← h0]; exact hbc
        clear hbc h0
        go_wp2_with fail
        go_meet
        case rel => exact ⟨by rw [neB_no H0.out], rfl⟩
      · have H0 := hd h0
        have q1 : ¬ ((b.version : Int) = (best.version : Int)) := by omega
        have q1' : ((b.version : Int) == (best.version : Int)) = false := by simpa using q1
        clear h0
        go_wp2_with fail
        go_meet
        case rel => exact ⟨by rw [neB_yes H0.out], rfl⟩
      · have H0 := hd h0
        have q1 : ((b.version : Int) == (best.version : Int)) = true := by simp [h1]
        have q2 : ¬ ((txt b.text).toList = (txt best.text).toList) := by rw [txt_list, txt_list]; exact h2
        have q2' : ((txt b.text).toList == (txt best.text).toList) = false := by simpa using q2
        clear h0
        go_wp2_with fail
        go_meet
        case rel => exact ⟨by rw [neB_yes H0.out], rfl⟩
      · have H0 := hd h0
        have q1 : ((b.version : Int) == (best.version : Int)) = true := by simp [h1]
        have q2 : ((txt b.text).toList == (txt best.text).toList) = true := by simp [h2]
        have q3 : (b.bad == best.bad) = false := by simpa using h3
        have q3' : ¬ (b.bad = best.bad) := h3
        clear h0
        go_wp2_with fail
        go_meet
        case rel => exact ⟨by rw [neB_yes H0.out], rfl⟩
    case rest =>
      obtain ⟨rfl, rfl⟩ := hcut
      go_wp2_with fail
      · have H0 := hd (neB_of (show neB b best = true by assumption))
        go_region_held3 (fun X => Upd [bd] wc X ∧ (∀ o, X.cell? ⟨kc, o, none⟩ = #[.pointer (some ⟨bd, 0, none⟩), .int .i64 first, .int .u64 ver][o]?) ∧ (∀ o, X.cell? ⟨w.heap.size + 1 + 1, o, none⟩ = #[.int .u64 best.version, .string (txt best.text), .bool best.bad][o]?))
          ((refine HKT.out _ ?_; (try go_split_ands); repeat (first | with_reducible assumption | with_reducible exact hup9 | with_reducible exact Upd.refl _ _ | with_reducible refine Upd.drew ?_)))
          (first
          | ((with_reducible refine (HL2.out _ (by repeat (first | with_reducible exact Upd.refl _ _ | with_reducible refine Upd.drew ?_))).mono ?_); rintro x w9 ⟨rfl, hu9, hd9⟩; have hup9 : Upd [bd] wc w9 := Upd.trans (by repeat (first | with_reducible exact Upd.refl _ _ | with_reducible refine Upd.drew ?_)) hu9))
        go_wp2_with fail
        go_ret
        rw [HMJ.out, if_pos H0.out]
        exact ⟨rfl, ((HU.out.mono (by simp)).trans HX.out).trans hup9, hd9⟩
      · have H0 := hd (neB_not (show neB b best = false by assumption))
        go_ret
        rw [HMJ.out, if_neg (by simp [H0.out])]
        exact ⟨rfl, (HU.out.mono (by simp)).trans HX.out, HDX.out⟩
end Go.Proofs.Ytjaoiaknglnomaa

/-
  twin.Cell.Version and Write, walked. Conditions: a disk as it may be, texts of sizes that there are.
-/
set_option linter.unusedVariables false
set_option linter.unusedSimpArgs false
set_option maxRecDepth 100000
namespace Go.Proofs.Ytjaoiaknglnomaa
open Go.RowKit

theorem version_any (kc bd : Nat) (f : Int) (ver : Nat) (w : World) (hc : CellAt w kc bd f ver) :
    Calls Try.prog 28 #[.pointer (some ⟨kc, 0, none⟩)] w fun x w' => x = .returned (.int .u64 ver) ∧ w = w' := by
  have h := hc.cell
  clear hc
  go_enter Try.func28, Try.ntmps28
  go_wp2_with fail
  go_ret
  exact ⟨rfl, rfl⟩

/-- What Write answers, and leaves: the disk, the version. -/
def DiskS.writeIt (d : DiskS) (first : Int) (ver : Nat) (s : List UInt8) : Int × DiskS × Nat :=
  if 524288 < s.length then (6, d, ver)
  else if (d.layIt first (ver + 1) s).1 ≠ 0 then ((d.layIt first (ver + 1) s).1, (d.layIt first (ver + 1) s).2, ver)
  else if ((d.layIt first (ver + 1) s).2.layIt (first + 1) (ver + 1) s).1 ≠ 0 then (((d.layIt first (ver + 1) s).2.layIt (first + 1) (ver + 1) s).1, ((d.layIt first (ver + 1) s).2.layIt (first + 1) (ver + 1) s).2, ver)
  else (0, ((d.layIt first (ver + 1) s).2.layIt (first + 1) (ver + 1) s).2, ver + 1)

set_option maxHeartbeats 4000000 in
theorem cwrite_any (d : DiskS) (first : Int) (ver : Nat) (s : List UInt8) (kc bd : Nat) (w : World) (hd' : DiskAt w bd d) (hc : CellAt w kc bd first ver) (hf : d.fine) (hf0 : 0 ≤ first) (hf1 : first ≤ 2) (hv : ver < 1099511627776) (hs : s.length ≤ 1099511627776) :
    Calls Try.prog 27 #[.pointer (some ⟨kc, 0, none⟩), .string (txt s)] w fun x w' =>
      x = .returned (.int .i64 (d.writeIt first ver s).1) ∧ Upd [bd, kc] w w' ∧ DiskAt w' bd (d.writeIt first ver s).2.1 ∧ CellAt w' kc bd first (d.writeIt first ver s).2.2 := by
  have hne : kc ≠ bd := blk_ne hc hd' (by decide)
  have HDC := hd (show DiskAt w bd d ∧ CellAt w kc bd first ver from ⟨hd', hc⟩)
  by_cases hl : 524288 < s.length
  · have HW := hd (show d.writeIt first ver s = (6, d, ver) by unfold DiskS.writeIt; rw [if_pos hl])
    have hl' : (524288 : Int) < (s.length : Int) := by omega
    clear hd' hc
    go_enter Try.func27, Try.ntmps27
    go_wp2_with fail
    go_ret
    rw [HW.out]
    exact ⟨rfl, Upd.refl _ _, HDC.out.1, HDC.out.2⟩
  · have hl' : ¬ (524288 : Int) < (s.length : Int) := by omega
    have HW := hd (show d.writeIt first ver s = if (d.layIt first (ver + 1) s).1 ≠ 0 then ((d.layIt first (ver + 1) s).1, (d.layIt first (ver + 1) s).2, ver)
      else if ((d.layIt first (ver + 1) s).2.layIt (first + 1) (ver + 1) s).1 ≠ 0 then (((d.layIt first (ver + 1) s).2.layIt (first + 1) (ver + 1) s).1, ((d.layIt first (ver + 1) s).2.layIt (first + 1) (ver + 1) s).2, ver)
      else (0, ((d.layIt first (ver + 1) s).2.layIt (first + 1) (ver + 1) s).2, ver + 1) by unfold DiskS.writeIt; rw [if_neg hl])
    have hw1 : IntKind.i64.wrap (first + 1) = first + 1 := by rw [IntKind.wrap_i64]; omega
    have hw0 : IntKind.i64.wrap first = first := by rw [IntKind.wrap_i64]; omega
    have hwv : IntKind.u64.wrap ((ver : Int) + 1) = ver + 1 := by rw [IntKind.wrap_u64]; omega
    have hL := fun (D : DiskS) (hD : D.fine) (f : Int) (W : World) (h1 : DiskAt W bd D) (h2 : CellAt W kc bd first ver) => clay_any D first f ver (ver + 1) s kc bd W h1 h2 hD (by omega) (by omega)
    have ecast : ((ver + 1 : Nat) : Int) = (ver : Int) + 1 := by omega
    rw [ecast] at hL
    have HLAY := hd hL
    have HF1 := hd (lay_fine d first (ver + 1) s hf (by omega))
    have HF0 := hd hf
    have HKS := hd (show ∀ X, Upd [bd] w X → Upd [bd] w X ∧ (∀ o, X.cell? ⟨kc, o, none⟩ = #[.pointer (some ⟨bd, 0, none⟩), .int .i64 first, .int .u64 ver][o]?) from fun X hx => ⟨hx, (hc.upd hx (by simpa using hne)).cell⟩)
    clear hd' hc hf hL ecast
    go_enter Try.func27, Try.ntmps27
    go_wp2_with fail
    go_loopw [10] (fun c wr => ∃ D : DiskS, Upd [bd] w wr ∧ DiskAt wr bd D ∧ D.fine ∧ ((c = .int .i64 0 ∧ D = d) ∨ (c = .int .i64 1 ∧ (d.layIt first (ver + 1) s).1 = 0 ∧ D = (d.layIt first (ver + 1) s).2) ∨ (c = .int .i64 2 ∧ (d.layIt first (ver + 1) s).1 = 0 ∧ ((d.layIt first (ver + 1) s).2.layIt (first + 1) (ver + 1) s).1 = 0 ∧ D = ((d.layIt first (ver + 1) s).2.layIt (first + 1) (ver + 1) s).2))) (fun c _ => 2 - (intOf c).toNat)
    case atStart => exact ⟨d, Upd.refl _ _, HDC.out.1, HF0.out, .inl ⟨rfl, rfl⟩⟩
    case round =>
      obtain ⟨D, hu, hD, hfD, hst⟩ := hrel
      have HU := hd hu
      have HD := hd hD
      have HFD := hd hfD
      have HCE := hd (HDC.out.2.upd hu (by simpa using hne))
      have HKT := hd (show ∀ X, Upd [bd] wr X → Upd [bd] wr X ∧ (∀ o, X.cell? ⟨kc, o, none⟩ = #[.pointer (some ⟨bd, 0, none⟩), .int .i64 first, .int .u64 ver][o]?) from fun X hx => ⟨hx, (HKS.out X (hu.trans hx)).2⟩)
      have HLY := hd (fun f (X : World) (hx : Upd [] wr X) => HLAY.out D hfD f X (HD.out.upd hx (by simp)) (HCE.out.upd hx (by simp)))
      clear hu hD hfD
      rcases hst with ⟨rfl, rfl⟩ | ⟨rfl, h1, rfl⟩ | ⟨rfl, h1, h2, rfl⟩
      · go_wp2_with fail
        go_region_held3 (fun X => Upd [bd] wr X ∧ (∀ o, X.cell? ⟨kc, o, none⟩ = #[.pointer (some ⟨bd, 0, none⟩), .int .i64 first, .int .u64 ver][o]?))
          ((refine HKT.out _ ?_; (try go_split_ands); repeat (first | with_reducible assumption | with_reducible exact hup9 | with_reducible exact Upd.refl _ _ | with_reducible refine Upd.drew ?_)))
          (first
          | ((with_reducible refine (HLY.out _ _ (by repeat (first | with_reducible exact Upd.refl _ _ | with_reducible refine Upd.drew ?_))).mono ?_); rintro x w9 ⟨rfl, hu9, hd9⟩; have hup9 : Upd [bd] wr w9 := Upd.trans (by repeat (first | with_reducible exact Upd.refl _ _ | with_reducible refine Upd.drew ?_)) hu9))
        have HCF := hd (HCE.out.upd hup9 (by simpa using hne))
        by_cases he : (D.layIt first (ver + 1) s).1 = 0
        · have he' : ((D.layIt first (ver + 1) s).1 != 0) = false := by simp [he]
          have HE := hd he
          clear he
          go_wp2_with fail
          go_roundw
          case rel => exact ⟨_, HU.out.trans hup9, hd9, lay_fine _ _ _ _ HFD.out (by omega), .inr (.inl ⟨rfl, HE.out, rfl⟩)⟩
          case measure => simp [intOf]
        · have he' : ((D.layIt first (ver + 1) s).1 != 0) = true := by simpa using he
          have HE := hd he
          clear he
          go_wp2_with fail
          go_ret
          rw [HW.out, if_pos HE.out]
          exact ⟨rfl, (HU.out.trans hup9).mono (by simp), hd9, HCF.out⟩
      · have H1 := hd h1
        clear h1
        go_wp2_with fail
        go_region_held3 (fun X => Upd [bd] wr X ∧ (∀ o, X.cell? ⟨kc, o, none⟩ = #[.pointer (some ⟨bd, 0, none⟩), .int .i64 first, .int .u64 ver][o]?))
          ((refine HKT.out _ ?_; (try go_split_ands); repeat (first | with_reducible assumption | with_reducible exact hup9 | with_reducible exact Upd.refl _ _ | with_reducible refine Upd.drew ?_)))
          (first
          | ((with_reducible refine (HLY.out _ _ (by repeat (first | with_reducible exact Upd.refl _ _ | with_reducible refine Upd.drew ?_))).mono ?_); rintro x w9 ⟨rfl, hu9, hd9⟩; have hup9 : Upd [bd] wr w9 := Upd.trans (by repeat (first | with_reducible exact Upd.refl _ _ | with_reducible refine Upd.drew ?_)) hu9))
        have HCF := hd (HCE.out.upd hup9 (by simpa using hne))
        by_cases he : ((d.layIt first (ver + 1) s).2.layIt (first + 1) (ver + 1) s).1 = 0
        · have he' : (((d.layIt first (ver + 1) s).2.layIt (first + 1) (ver + 1) s).1 != 0) = false := by simp [he]
          have HE := hd he
          clear he
          go_wp2_with fail
          go_roundw
          case rel => exact ⟨_, HU.out.trans hup9, hd9, lay_fine _ _ _ _ HFD.out (by omega), .inr (.inr ⟨rfl, H1.out, HE.out, rfl⟩)⟩
          case measure => simp [intOf]
        · have he' : (((d.layIt first (ver + 1) s).2.layIt (first + 1) (ver + 1) s).1 != 0) = true := by simpa using he
          have HE := hd he
          clear he
          go_wp2_with fail
          go_ret
          rw [HW.out, if_neg (fun h => h H1.out), if_pos HE.out]
          exact ⟨rfl, (HU.out.trans hup9).mono (by simp), hd9, HCF.out⟩
      · have H1 := hd h1
        have H2 := hd h2
        have hcc := HCE.out.cell
        have hcz := HCE.out.frozen
        clear h1 h2
        go_wp2_with fail
        go_ret
        rw [HW.out, if_neg (fun h => h H1.out), if_neg (fun h => h H2.out)]
        refine ⟨rfl, (HU.out.mono (by simp)).setCell (by simp) _, HD.out.set_other (by simpa using fun e => hne e.symm) _, ?_⟩
        exact HCE.out.set 2 _
end Go.Proofs.Ytjaoiaknglnomaa
