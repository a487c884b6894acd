/-
  twin.Cell.Version and Write, walked. Conditions: a disk as it may be, texts of sizes that there are.
-/
import Derived.Test.YtjaoiaknglnomaaTwin3
set_option linter.unusedVariables false
set_option linter.unusedSimpArgs false
set_option maxRecDepth 100000
namespace Go.Proofs.Ytjaoiaknglnomaa
open Go.RowKit

theorem version_any (kc bd : Nat) (f : Int) (ver : Nat) (w : World) (hc : CellAt w kc bd f ver) :
    Calls Try.prog 28 #[.pointer (some ⟨kc, 0, none⟩)] w fun x w' => x = .returned (.int .u64 ver) ∧ w = w' := by
  have h := hc.cell
  clear hc
  go_enter Try.func28, Try.ntmps28
  go_wp2_with fail
  go_ret
  exact ⟨rfl, rfl⟩

/-- What Write answers, and leaves: the disk, the version. -/
def DiskS.writeIt (d : DiskS) (first : Int) (ver : Nat) (s : List UInt8) : Int × DiskS × Nat :=
  if 524288 < s.length then (6, d, ver)
  else if (d.layIt first (ver + 1) s).1 ≠ 0 then ((d.layIt first (ver + 1) s).1, (d.layIt first (ver + 1) s).2, ver)
  else if ((d.layIt first (ver + 1) s).2.layIt (first + 1) (ver + 1) s).1 ≠ 0 then (((d.layIt first (ver + 1) s).2.layIt (first + 1) (ver + 1) s).1, ((d.layIt first (ver + 1) s).2.layIt (first + 1) (ver + 1) s).2, ver)
  else (0, ((d.layIt first (ver + 1) s).2.layIt (first + 1) (ver + 1) s).2, ver + 1)

set_option maxHeartbeats 4000000 in
theorem cwrite_any (d : DiskS) (first : Int) (ver : Nat) (s : List UInt8) (kc bd : Nat) (w : World) (hd' : DiskAt w bd d) (hc : CellAt w kc bd first ver) (hf : d.fine) (hf0 : 0 ≤ first) (hf1 : first ≤ 2) (hv : ver < 1099511627776) (hs : s.length ≤ 1099511627776) :
    Calls Try.prog 27 #[.pointer (some ⟨kc, 0, none⟩), .string (txt s)] w fun x w' =>
      x = .returned (.int .i64 (d.writeIt first ver s).1) ∧ Upd [bd, kc] w w' ∧ DiskAt w' bd (d.writeIt first ver s).2.1 ∧ CellAt w' kc bd first (d.writeIt first ver s).2.2 := by
  have hne : kc ≠ bd := blk_ne hc hd' (by decide)
  have HDC := hd (show DiskAt w bd d ∧ CellAt w kc bd first ver from ⟨hd', hc⟩)
  by_cases hl : 524288 < s.length
  · have HW := hd (show d.writeIt first ver s = (6, d, ver) by unfold DiskS.writeIt; rw [if_pos hl])
    have hl' : (524288 : Int) < (s.length : Int) := by omega
    clear hd' hc
    go_enter Try.func27, Try.ntmps27
    go_wp2_with fail
    go_ret
    rw [HW.out]
    exact ⟨rfl, Upd.refl _ _, HDC.out.1, HDC.out.2⟩
  · have hl' : ¬ (524288 : Int) < (s.length : Int) := by omega
    have HW := hd (show d.writeIt first ver s = if (d.layIt first (ver + 1) s).1 ≠ 0 then ((d.layIt first (ver + 1) s).1, (d.layIt first (ver + 1) s).2, ver)
      else if ((d.layIt first (ver + 1) s).2.layIt (first + 1) (ver + 1) s).1 ≠ 0 then (((d.layIt first (ver + 1) s).2.layIt (first + 1) (ver + 1) s).1, ((d.layIt first (ver + 1) s).2.layIt (first + 1) (ver + 1) s).2, ver)
      else (0, ((d.layIt first (ver + 1) s).2.layIt (first + 1) (ver + 1) s).2, ver + 1) by unfold DiskS.writeIt; rw [if_neg hl])
    have hw1 : IntKind.i64.wrap (first + 1) = first + 1 := by rw [IntKind.wrap_i64]; omega
    have hw0 : IntKind.i64.wrap first = first := by rw [IntKind.wrap_i64]; omega
    have hwv : IntKind.u64.wrap ((ver : Int) + 1) = ver + 1 := by rw [IntKind.wrap_u64]; omega
    have hL := fun (D : DiskS) (hD : D.fine) (f : Int) (W : World) (h1 : DiskAt W bd D) (h2 : CellAt W kc bd first ver) => clay_any D first f ver (ver + 1) s kc bd W h1 h2 hD (by omega) (by omega)
    have ecast : ((ver + 1 : Nat) : Int) = (ver : Int) + 1 := by omega
    rw [ecast] at hL
    have HLAY := hd hL
    have HF1 := hd (lay_fine d first (ver + 1) s hf (by omega))
    have HF0 := hd hf
    have HKS := hd (show ∀ X, Upd [bd] w X → Upd [bd] w X ∧ (∀ o, X.cell? ⟨kc, o, none⟩ = #[.pointer (some ⟨bd, 0, none⟩), .int .i64 first, .int .u64 ver][o]?) from fun X hx => ⟨hx, (hc.upd hx (by simpa using hne)).cell⟩)
    clear hd' hc hf hL ecast
    go_enter Try.func27, Try.ntmps27
    go_wp2_with fail
    go_loopw [10] (fun c wr => ∃ D : DiskS, Upd [bd] w wr ∧ DiskAt wr bd D ∧ D.fine ∧ ((c = .int .i64 0 ∧ D = d) ∨ (c = .int .i64 1 ∧ (d.layIt first (ver + 1) s).1 = 0 ∧ D = (d.layIt first (ver + 1) s).2) ∨ (c = .int .i64 2 ∧ (d.layIt first (ver + 1) s).1 = 0 ∧ ((d.layIt first (ver + 1) s).2.layIt (first + 1) (ver + 1) s).1 = 0 ∧ D = ((d.layIt first (ver + 1) s).2.layIt (first + 1) (ver + 1) s).2))) (fun c _ => 2 - (intOf c).toNat)
    case atStart => exact ⟨d, Upd.refl _ _, HDC.out.1, HF0.out, .inl ⟨rfl, rfl⟩⟩
    case round =>
      obtain ⟨D, hu, hD, hfD, hst⟩ := hrel
      have HU := hd hu
      have HD := hd hD
      have HFD := hd hfD
      have HCE := hd (HDC.out.2.upd hu (by simpa using hne))
      have HKT := hd (show ∀ X, Upd [bd] wr X → Upd [bd] wr X ∧ (∀ o, X.cell? ⟨kc, o, none⟩ = #[.pointer (some ⟨bd, 0, none⟩), .int .i64 first, .int .u64 ver][o]?) from fun X hx => ⟨hx, (HKS.out X (hu.trans hx)).2⟩)
      have HLY := hd (fun f (X : World) (hx : Upd [] wr X) => HLAY.out D hfD f X (HD.out.upd hx (by simp)) (HCE.out.upd hx (by simp)))
      clear hu hD hfD
      rcases hst with ⟨rfl, rfl⟩ | ⟨rfl, h1, rfl⟩ | ⟨rfl, h1, h2, rfl⟩
      · go_wp2_with fail
        go_region_held3 (fun X => Upd [bd] wr X ∧ (∀ o, X.cell? ⟨kc, o, none⟩ = #[.pointer (some ⟨bd, 0, none⟩), .int .i64 first, .int .u64 ver][o]?))
          ((refine HKT.out _ ?_; (try go_split_ands); repeat (first | with_reducible assumption | with_reducible exact hup9 | with_reducible exact Upd.refl _ _ | with_reducible refine Upd.drew ?_)))
          (first
          | ((with_reducible refine (HLY.out _ _ (by repeat (first | with_reducible exact Upd.refl _ _ | with_reducible refine Upd.drew ?_))).mono ?_); rintro x w9 ⟨rfl, hu9, hd9⟩; have hup9 : Upd [bd] wr w9 := Upd.trans (by repeat (first | with_reducible exact Upd.refl _ _ | with_reducible refine Upd.drew ?_)) hu9))
        have HCF := hd (HCE.out.upd hup9 (by simpa using hne))
        by_cases he : (D.layIt first (ver + 1) s).1 = 0
        · have he' : ((D.layIt first (ver + 1) s).1 != 0) = false := by simp [he]
          have HE := hd he
          clear he
          go_wp2_with fail
          go_roundw
          case rel => exact ⟨_, HU.out.trans hup9, hd9, lay_fine _ _ _ _ HFD.out (by omega), .inr (.inl ⟨rfl, HE.out, rfl⟩)⟩
          case measure => simp [intOf]
        · have he' : ((D.layIt first (ver + 1) s).1 != 0) = true := by simpa using he
          have HE := hd he
          clear he
          go_wp2_with fail
          go_ret
          rw [HW.out, if_pos HE.out]
          exact ⟨rfl, (HU.out.trans hup9).mono (by simp), hd9, HCF.out⟩
      · have H1 := hd h1
        clear h1
        go_wp2_with fail
        go_region_held3 (fun X => Upd [bd] wr X ∧ (∀ o, X.cell? ⟨kc, o, none⟩ = #[.pointer (some ⟨bd, 0, none⟩), .int .i64 first, .int .u64 ver][o]?))
          ((refine HKT.out _ ?_; (try go_split_ands); repeat (first | with_reducible assumption | with_reducible exact hup9 | with_reducible exact Upd.refl _ _ | with_reducible refine Upd.drew ?_)))
          (first
          | ((with_reducible refine (HLY.out _ _ (by repeat (first | with_reducible exact Upd.refl _ _ | with_reducible refine Upd.drew ?_))).mono ?_); rintro x w9 ⟨rfl, hu9, hd9⟩; have hup9 : Upd [bd] wr w9 := Upd.trans (by repeat (first | with_reducible exact Upd.refl _ _ | with_reducible refine Upd.drew ?_)) hu9))
        have HCF := hd (HCE.out.upd hup9 (by simpa using hne))
        by_cases he : ((d.layIt first (ver + 1) s).2.layIt (first + 1) (ver + 1) s).1 = 0
        · have he' : (((d.layIt first (ver + 1) s).2.layIt (first + 1) (ver + 1) s).1 != 0) = false := by simp [he]
          have HE := hd he
          clear he
          go_wp2_with fail
          go_roundw
          case rel => exact ⟨_, HU.out.trans hup9, hd9, lay_fine _ _ _ _ HFD.out (by omega), .inr (.inr ⟨rfl, H1.out, HE.out, rfl⟩)⟩
          case measure => simp [intOf]
        · have he' : (((d.layIt first (ver + 1) s).2.layIt (first + 1) (ver + 1) s).1 != 0) = true := by simpa using he
          have HE := hd he
          clear he
          go_wp2_with fail
          go_ret
          rw [HW.out, if_neg (fun h => h H1.out), if_pos HE.out]
          exact ⟨rfl, (HU.out.trans hup9).mono (by simp), hd9, HCF.out⟩
      · have H1 := hd h1
        have H2 := hd h2
        have hcc := HCE.out.cell
        have hcz := HCE.out.frozen
        clear h1 h2
        go_wp2_with fail
        go_ret
        rw [HW.out, if_neg (fun h => h H1.out), if_neg (fun h => h H2.out)]
        refine ⟨rfl, (HU.out.mono (by simp)).setCell (by simp) _, HD.out.set_other (by simpa using fun e => hne e.symm) _, ?_⟩
        exact HCE.out.set 2 _
end Go.Proofs.Ytjaoiaknglnomaa
