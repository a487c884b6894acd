/-
  Package disk, walked: Crash. Conditions: the strings of a disk are of at most 2^40 bytes each; what is for sure of a file that was not put is no longer than what it has.
-/
import Derived.Test.YtjaoiaknglnomaaWm5
set_option linter.unusedVariables false
namespace Go.Proofs.Ytjaoiaknglnomaa
open Go.RowKit

def FileS.ok (f : FileS) : Prop := f.put = false → f.sure.size ≤ f.now.size
def DiskS.ok (d : DiskS) : Prop := ∀ i, (d.get i).ok
def FileS.safe (f : FileS) : Bool := f.now.toList == f.sure.toList
/-- What a crash leaves of file k, by the choices that are left. -/
def crashStep (d0 : DiskS) (k : Nat) (st : DiskS × List Int) : DiskS × List Int :=
  if (d0.get k).safe then (st.1.set k ⟨(d0.get k).now, (d0.get k).now, false⟩, st.2)
  else (st.1.set k ⟨(d0.get k).left (st.2.headD 0), (d0.get k).left (st.2.headD 0), false⟩, st.2.tail)
def crashTo (d0 : DiskS) (cs : List Int) : Nat → DiskS × List Int
  | 0 => ({ d0 with fail := 0 }, cs)
  | k + 1 => crashStep d0 k (crashTo d0 cs k)
def DiskS.crashIt (d : DiskS) (cs : List Int) : DiskS := (crashTo d cs 4).1

set_option maxHeartbeats 1000000 in
theorem crash_any (d : DiskS) (v : Value) (cs : List Int) (w : World) (b : Nat) (hd : DiskAt w b d) (hs : d.small) (ho : d.ok) (hv : IntsAt b w v cs) :
    Calls Try.prog 22 #[.pointer (some ⟨b, 0, none⟩), v] w fun e w' =>
      e = .returned (.tuple #[]) ∧ Upd [b] w w' ∧ DiskAt w' b (d.crashIt cs) := by
  have hlt := hd.lt
  have hc := hd.cell
  have hz := hd.frozen
  simp only [DiskS.cells] at hc
  have i0 := fun w => (array_index d.f0 d.f1 d.f2 d.f3 w).1
  have i1 := fun w => (array_index d.f0 d.f1 d.f2 d.f3 w).2.1
  have i2 := fun w => (array_index d.f0 d.f1 d.f2 d.f3 w).2.2.1
  have i3 := fun w => (array_index d.f0 d.f1 d.f2 d.f3 w).2.2.2
  have hv0 : IntsAt b (w.setCell ⟨b, 13, none⟩ (.int .i64 0)) v cs := hv.upd (L := [b]) ((Upd.refl _ _).setCell (by simp) _) (by simp)
  have hd0 : DiskAt (w.setCell ⟨b, 13, none⟩ (.int .i64 0)) b { d with fail := 0 } := hd.set 13 _
  have hu0 : Upd [b] w (w.setCell ⟨b, 13, none⟩ (.int .i64 0)) := (Upd.refl _ _).setCell (by simp) _
  have Hv := Lib.hid hv0
  have Hd := Lib.hid hd0
  have Hu := Lib.hid hu0
  clear hv hd hv0 hd0 hu0
  go_enter Try.func22, Try.ntmps22
  go_wp2
  go_loopw [1, 14] (fun u i wr => ∃ (k : Int) (st : DiskS × List Int), 0 ≤ k ∧ k ≤ 4 ∧ i = .int .i64 k ∧ Hid (st = crashTo d cs k.toNat) ∧ IntsAt b wr u st.2 ∧ Upd [b] w wr ∧ DiskAt wr b st.1) (fun _ i _ => 4 - (intOf i).toNat)
  case atStart => exact ⟨0, ({ d with fail := 0 }, cs), by omega, by omega, rfl, rfl, Hv.out, Hu.out, Hd.out⟩
  case round =>
    clear Hv Hd Hu
    obtain ⟨k, st, hk0, hk, rfl, Hst, hvr, hur, hdr⟩ := hrel
    have Hv := Lib.hid hvr
    have Hu := Lib.hid hur
    have Hd := Lib.hid hdr
    have hlr := hdr.lt
    clear hvr hur hdr
    rcases (by omega : k = 0 ∨ k = 1 ∨ k = 2 ∨ k = 3 ∨ k = 4) with rfl | rfl | rfl | rfl | rfl
    · by_cases hsafe : (d.f0.now.toList == d.f0.sure.toList) = true
      · have HS := Lib.hid (show (d.get 0).safe = true from hsafe)
        go_wp2_with fail
        refine (safe_any _ _ _ _).mono ?_
        rintro e w1 ⟨rfl, hu1⟩
        rw [hsafe]
        have hd1 : DiskAt w1 b st.1 := Blk.upd (Blk.alloc Hd.out _) hu1 (by simp)
        have hn1 := (Blk.upd (Blk.new wr _ _) hu1 (by simp)).cell
        have hl1 := hd1.lt
        have hsz := hu1.size
        simp only [World.size_alloc] at hsz
        have HU1 := Lib.hid hu1
        have HD1 := Lib.hid hd1
        clear hu1 hd1
        go_wp2_with fail
        refine (settle_any st.1 0 d.f0.now _ b HD1.out (by omega)).mono ?_
        rintro e w2 ⟨rfl, hu2, hd2⟩
        have HU2 := Lib.hid hu2
        have HD2 := Lib.hid hd2
        clear hu2 hd2
        go_wp2
        go_roundw
        case rel =>
          have hU : Upd [b] wr w2 := (((Upd.refl _ _).alloc _).trans (HU1.out.mono (by simp))).trans HU2.out
          exact ⟨1, (st.1.set 0 ⟨d.f0.now, d.f0.now, false⟩, st.2), by omega, by omega, rfl,
            (by show _ = crashStep d 0 (crashTo d cs 0); rw [← show st = crashTo d cs 0 from Hst.out]; simp only [crashStep, HS.out, if_true]; rfl),
            Hv.out.upd hU (by simp), Hu.out.trans hU, HD2.out⟩
        case measure => simp [intOf]
      · have HS := Lib.hid (show (d.get 0).safe = false by simpa [FileS.safe, DiskS.get] using hsafe)
        have hsafe' : (d.f0.now.toList == d.f0.sure.toList) = false := by simpa using hsafe
        go_wp2_with fail
        refine (safe_any _ _ _ _).mono ?_
        rintro e w1 ⟨rfl, hu1⟩
        rw [hsafe']
        have hd1 : DiskAt w1 b st.1 := Blk.upd (Blk.alloc Hd.out _) hu1 (by simp)
        have hn1 := (Blk.upd (Blk.new wr _ _) hu1 (by simp)).cell
        have hv1 : IntsAt b w1 u1 st.2 := (Hv.out.upd (L := []) ((Upd.refl _ _).alloc _) (by simp)).upd hu1 (by simp)
        have hl1 := hd1.lt
        have hsz := hu1.size
        simp only [World.size_alloc] at hsz
        have HU1 := Lib.hid hu1
        have HD1 := Lib.hid hd1
        clear hu1 hd1
        obtain ⟨a, c, e1, h2, h3, h4⟩ := hv1
        obtain ⟨s1, s2⟩ := st
        simp only at *
        cases s2 with
        | nil =>
          subst e1
          have HV := Lib.hid (show IntsAt b w1 (.slice a ([] : List Int).length c) [] from ⟨a, c, rfl, h2, h3, h4⟩)
          clear h4 h2
          go_wp2_with fail
          refine (left_any (d.get 0) 0 _ (DiskS.get_small hs 0) (ho 0)).mono ?_
          rintro e w2 ⟨rfl, hu2⟩
          have hd2 : DiskAt w2 b s1 := HD1.out.upd hu2 (by simp)
          have HU2 := Lib.hid hu2
          have HD2 := Lib.hid hd2
          clear hu2 hd2
          go_wp2_with fail
          refine (settle_any s1 0 ((d.get 0).left 0) _ b HD2.out (by omega)).mono ?_
          rintro e w3 ⟨rfl, hu3, hd3⟩
          have HU3 := Lib.hid hu3
          have HD3 := Lib.hid hd3
          clear hu3 hd3
          go_wp2
          go_roundw
          case rel =>
            have hU1 : Upd [b] w1 w3 := (HU2.out.mono (by simp)).trans HU3.out
            have hU : Upd [b] wr w3 := (((Upd.refl _ _).alloc _).trans (HU1.out.mono (by simp))).trans hU1
            exact ⟨1, (s1.set 0 ⟨(d.get 0).left 0, (d.get 0).left 0, false⟩, []), by omega, by omega, rfl,
              (by show _ = crashStep d 0 (crashTo d cs 0); rw [← show _ = crashTo d cs 0 from Hst.out]; simp [crashStep, HS.out]),
              HV.out.upd hU1 (by simp), Hu.out.trans hU, HD3.out⟩
          case measure => simp [intOf]
        | cons x xs =>
          obtain ⟨k', o, rfl, hkB, hkl, hcs⟩ := h4 (by simp)
          subst e1
          have hx : w1.cell? ⟨k', o, none⟩ = some (.int .i64 x) := by simpa using hcs 0 (by simp)
          have hcs' : ∀ i, i < xs.length → w1.cell? ⟨k', o + 1 + i, none⟩ = some (.int .i64 (xs.getD i 0)) := fun i hi => by
            have := hcs (i + 1) (by simpa using hi)
            rw [show o + 1 + i = o + (i + 1) by omega]
            simpa using this
          have Hcs := Lib.hid hcs'
          simp only [List.length_cons] at h2
          clear hcs hcs' h4
          by_cases hcap : c = 1
          · subst hcap
            obtain rfl : xs = [] := List.length_eq_zero_iff.1 (by omega)
            have HV := Lib.hid (show IntsAt b w1 (.slice (some ⟨k', o, none⟩) 0 0) [] from ⟨_, 0, rfl, by simp, by omega, by simp⟩)
            go_wp2_with fail
            go_region
            go_wp2_with fail
            refine (left_any (d.get 0) x _ (DiskS.get_small hs 0) (ho 0)).mono ?_
            rintro e w2 ⟨rfl, hu2⟩
            have hd2 : DiskAt w2 b s1 := (show DiskAt w1.drew b s1 from HD1.out).upd hu2 (by simp)
            have HU2 := Lib.hid hu2
            have HD2 := Lib.hid hd2
            clear hu2 hd2
            go_wp2_with fail
            refine (settle_any s1 0 ((d.get 0).left x) _ b HD2.out (by omega)).mono ?_
            rintro e w3 ⟨rfl, hu3, hd3⟩
            have HU3 := Lib.hid hu3
            have HD3 := Lib.hid hd3
            clear hu3 hd3
            go_wp2
            go_roundw
            case rel =>
              have hU1 : Upd [b] w1 w3 := (((Upd.refl _ _).drew).trans (HU2.out.mono (by simp))).trans HU3.out
              have hU : Upd [b] wr w3 := (((Upd.refl _ _).alloc _).trans (HU1.out.mono (by simp))).trans hU1
              exact ⟨1, (s1.set 0 ⟨(d.get 0).left x, (d.get 0).left x, false⟩, []), by omega, by omega, rfl,
                (by show _ = crashStep d 0 (crashTo d cs 0); rw [← show _ = crashTo d cs 0 from Hst.out]; simp [crashStep, HS.out]),
                HV.out.upd hU1 (by simp), Hu.out.trans hU, HD3.out⟩
            case measure => simp [intOf]
          · have HV := Lib.hid (show IntsAt b w1 (.slice (some ⟨k', o + 1, none⟩) xs.length (c - 1)) xs from ⟨_, c - 1, rfl, by omega, by omega, fun _ => ⟨k', o + 1, rfl, hkB, hkl, Hcs.out⟩⟩)
            go_wp2_with fail
            go_region
            go_wp2_with fail
            refine (left_any (d.get 0) x _ (DiskS.get_small hs 0) (ho 0)).mono ?_
            rintro e w2 ⟨rfl, hu2⟩
            have hd2 : DiskAt w2 b s1 := (show DiskAt w1.drew b s1 from HD1.out).upd hu2 (by simp)
            have HU2 := Lib.hid hu2
            have HD2 := Lib.hid hd2
            clear hu2 hd2
            go_wp2_with fail
            refine (settle_any s1 0 ((d.get 0).left x) _ b HD2.out (by omega)).mono ?_
            rintro e w3 ⟨rfl, hu3, hd3⟩
            have HU3 := Lib.hid hu3
            have HD3 := Lib.hid hd3
            clear hu3 hd3
            go_wp2
            go_roundw
            case rel =>
              have hU1 : Upd [b] w1 w3 := (((Upd.refl _ _).drew).trans (HU2.out.mono (by simp))).trans HU3.out
              have hU : Upd [b] wr w3 := (((Upd.refl _ _).alloc _).trans (HU1.out.mono (by simp))).trans hU1
              exact ⟨1, (s1.set 0 ⟨(d.get 0).left x, (d.get 0).left x, false⟩, xs), by omega, by omega, rfl,
                (by show _ = crashStep d 0 (crashTo d cs 0); rw [← show _ = crashTo d cs 0 from Hst.out]; simp [crashStep, HS.out]),
                HV.out.upd hU1 (by simp), Hu.out.trans hU, HD3.out⟩
            case measure => simp [intOf]
    · by_cases hsafe : (d.f1.now.toList == d.f1.sure.toList) = true
      · have HS := Lib.hid (show (d.get 1).safe = true from hsafe)
        go_wp2_with fail
        refine (safe_any _ _ _ _).mono ?_
        rintro e w1 ⟨rfl, hu1⟩
        rw [hsafe]
        have hd1 : DiskAt w1 b st.1 := Blk.upd (Blk.alloc Hd.out _) hu1 (by simp)
        have hn1 := (Blk.upd (Blk.new wr _ _) hu1 (by simp)).cell
        have hl1 := hd1.lt
        have hsz := hu1.size
        simp only [World.size_alloc] at hsz
        have HU1 := Lib.hid hu1
        have HD1 := Lib.hid hd1
        clear hu1 hd1
        go_wp2_with fail
        refine (settle_any st.1 1 d.f1.now _ b HD1.out (by omega)).mono ?_
        rintro e w2 ⟨rfl, hu2, hd2⟩
        have HU2 := Lib.hid hu2
        have HD2 := Lib.hid hd2
        clear hu2 hd2
        go_wp2
        go_roundw
        case rel =>
          have hU : Upd [b] wr w2 := (((Upd.refl _ _).alloc _).trans (HU1.out.mono (by simp))).trans HU2.out
          exact ⟨2, (st.1.set 1 ⟨d.f1.now, d.f1.now, false⟩, st.2), by omega, by omega, rfl,
            (by show _ = crashStep d 1 (crashTo d cs 1); rw [← show st = crashTo d cs 1 from Hst.out]; simp only [crashStep, HS.out, if_true]; rfl),
            Hv.out.upd hU (by simp), Hu.out.trans hU, HD2.out⟩
        case measure => simp [intOf]
      · have HS := Lib.hid (show (d.get 1).safe = false by simpa [FileS.safe, DiskS.get] using hsafe)
        have hsafe' : (d.f1.now.toList == d.f1.sure.toList) = false := by simpa using hsafe
        go_wp2_with fail
        refine (safe_any _ _ _ _).mono ?_
        rintro e w1 ⟨rfl, hu1⟩
        rw [hsafe']
        have hd1 : DiskAt w1 b st.1 := Blk.upd (Blk.alloc Hd.out _) hu1 (by simp)
        have hn1 := (Blk.upd (Blk.new wr _ _) hu1 (by simp)).cell
        have hv1 : IntsAt b w1 u1 st.2 := (Hv.out.upd (L := []) ((Upd.refl _ _).alloc _) (by simp)).upd hu1 (by simp)
        have hl1 := hd1.lt
        have hsz := hu1.size
        simp only [World.size_alloc] at hsz
        have HU1 := Lib.hid hu1
        have HD1 := Lib.hid hd1
        clear hu1 hd1
        obtain ⟨a, c, e1, h2, h3, h4⟩ := hv1
        obtain ⟨s1, s2⟩ := st
        simp only at *
        cases s2 with
        | nil =>
          subst e1
          have HV := Lib.hid (show IntsAt b w1 (.slice a ([] : List Int).length c) [] from ⟨a, c, rfl, h2, h3, h4⟩)
          clear h4 h2
          go_wp2_with fail
          refine (left_any (d.get 1) 0 _ (DiskS.get_small hs 1) (ho 1)).mono ?_
          rintro e w2 ⟨rfl, hu2⟩
          have hd2 : DiskAt w2 b s1 := HD1.out.upd hu2 (by simp)
          have HU2 := Lib.hid hu2
          have HD2 := Lib.hid hd2
          clear hu2 hd2
          go_wp2_with fail
          refine (settle_any s1 1 ((d.get 1).left 0) _ b HD2.out (by omega)).mono ?_
          rintro e w3 ⟨rfl, hu3, hd3⟩
          have HU3 := Lib.hid hu3
          have HD3 := Lib.hid hd3
          clear hu3 hd3
          go_wp2
          go_roundw
          case rel =>
            have hU1 : Upd [b] w1 w3 := (HU2.out.mono (by simp)).trans HU3.out
            have hU : Upd [b] wr w3 := (((Upd.refl _ _).alloc _).trans (HU1.out.mono (by simp))).trans hU1
            exact ⟨2, (s1.set 1 ⟨(d.get 1).left 0, (d.get 1).left 0, false⟩, []), by omega, by omega, rfl,
              (by show _ = crashStep d 1 (crashTo d cs 1); rw [← show _ = crashTo d cs 1 from Hst.out]; simp [crashStep, HS.out]),
              HV.out.upd hU1 (by simp), Hu.out.trans hU, HD3.out⟩
          case measure => simp [intOf]
        | cons x xs =>
          obtain ⟨k', o, rfl, hkB, hkl, hcs⟩ := h4 (by simp)
          subst e1
          have hx : w1.cell? ⟨k', o, none⟩ = some (.int .i64 x) := by simpa using hcs 0 (by simp)
          have hcs' : ∀ i, i < xs.length → w1.cell? ⟨k', o + 1 + i, none⟩ = some (.int .i64 (xs.getD i 0)) := fun i hi => by
            have := hcs (i + 1) (by simpa using hi)
            rw [show o + 1 + i = o + (i + 1) by omega]
            simpa using this
          have Hcs := Lib.hid hcs'
          simp only [List.length_cons] at h2
          clear hcs hcs' h4
          by_cases hcap : c = 1
          · subst hcap
            obtain rfl : xs = [] := List.length_eq_zero_iff.1 (by omega)
            have HV := Lib.hid (show IntsAt b w1 (.slice (some ⟨k', o, none⟩) 0 0) [] from ⟨_, 0, rfl, by simp, by omega, by simp⟩)
            go_wp2_with fail
            go_region
            go_wp2_with fail
            refine (left_any (d.get 1) x _ (DiskS.get_small hs 1) (ho 1)).mono ?_
            rintro e w2 ⟨rfl, hu2⟩
            have hd2 : DiskAt w2 b s1 := (show DiskAt w1.drew b s1 from HD1.out).upd hu2 (by simp)
            have HU2 := Lib.hid hu2
            have HD2 := Lib.hid hd2
            clear hu2 hd2
            go_wp2_with fail
            refine (settle_any s1 1 ((d.get 1).left x) _ b HD2.out (by omega)).mono ?_
            rintro e w3 ⟨rfl, hu3, hd3⟩
            have HU3 := Lib.hid hu3
            have HD3 := Lib.hid hd3
            clear hu3 hd3
            go_wp2
            go_roundw
            case rel =>
              have hU1 : Upd [b] w1 w3 := (((Upd.refl _ _).drew).trans (HU2.out.mono (by simp))).trans HU3.out
              have hU : Upd [b] wr w3 := (((Upd.refl _ _).alloc _).trans (HU1.out.mono (by simp))).trans hU1
              exact ⟨2, (s1.set 1 ⟨(d.get 1).left x, (d.get 1).left x, false⟩, []), by omega, by omega, rfl,
                (by show _ = crashStep d 1 (crashTo d cs 1); rw [← show _ = crashTo d cs 1 from Hst.out]; simp [crashStep, HS.out]),
                HV.out.upd hU1 (by simp), Hu.out.trans hU, HD3.out⟩
            case measure => simp [intOf]
          · have HV := Lib.hid (show IntsAt b w1 (.slice (some ⟨k', o + 1, none⟩) xs.length (c - 1)) xs from ⟨_, c - 1, rfl, by omega, by omega, fun _ => ⟨k', o + 1, rfl, hkB, hkl, Hcs.out⟩⟩)
            go_wp2_with fail
            go_region
            go_wp2_with fail
            refine (left_any (d.get 1) x _ (DiskS.get_small hs 1) (ho 1)).mono ?_
            rintro e w2 ⟨rfl, hu2⟩
            have hd2 : DiskAt w2 b s1 := (show DiskAt w1.drew b s1 from HD1.out).upd hu2 (by simp)
            have HU2 := Lib.hid hu2
            have HD2 := Lib.hid hd2
            clear hu2 hd2
            go_wp2_with fail
            refine (settle_any s1 1 ((d.get 1).left x) _ b HD2.out (by omega)).mono ?_
            rintro e w3 ⟨rfl, hu3, hd3⟩
            have HU3 := Lib.hid hu3
            have HD3 := Lib.hid hd3
            clear hu3 hd3
            go_wp2
            go_roundw
            case rel =>
              have hU1 : Upd [b] w1 w3 := (((Upd.refl _ _).drew).trans (HU2.out.mono (by simp))).trans HU3.out
              have hU : Upd [b] wr w3 := (((Upd.refl _ _).alloc _).trans (HU1.out.mono (by simp))).trans hU1
              exact ⟨2, (s1.set 1 ⟨(d.get 1).left x, (d.get 1).left x, false⟩, xs), by omega, by omega, rfl,
                (by show _ = crashStep d 1 (crashTo d cs 1); rw [← show _ = crashTo d cs 1 from Hst.out]; simp [crashStep, HS.out]),
                HV.out.upd hU1 (by simp), Hu.out.trans hU, HD3.out⟩
            case measure => simp [intOf]
    · by_cases hsafe : (d.f2.now.toList == d.f2.sure.toList) = true
      · have HS := Lib.hid (show (d.get 2).safe = true from hsafe)
        go_wp2_with fail
        refine (safe_any _ _ _ _).mono ?_
        rintro e w1 ⟨rfl, hu1⟩
        rw [hsafe]
        have hd1 : DiskAt w1 b st.1 := Blk.upd (Blk.alloc Hd.out _) hu1 (by simp)
        have hn1 := (Blk.upd (Blk.new wr _ _) hu1 (by simp)).cell
        have hl1 := hd1.lt
        have hsz := hu1.size
        simp only [World.size_alloc] at hsz
        have HU1 := Lib.hid hu1
        have HD1 := Lib.hid hd1
        clear hu1 hd1
        go_wp2_with fail
        refine (settle_any st.1 2 d.f2.now _ b HD1.out (by omega)).mono ?_
        rintro e w2 ⟨rfl, hu2, hd2⟩
        have HU2 := Lib.hid hu2
        have HD2 := Lib.hid hd2
        clear hu2 hd2
        go_wp2
        go_roundw
        case rel =>
          have hU : Upd [b] wr w2 := (((Upd.refl _ _).alloc _).trans (HU1.out.mono (by simp))).trans HU2.out
          exact ⟨3, (st.1.set 2 ⟨d.f2.now, d.f2.now, false⟩, st.2), by omega, by omega, rfl,
            (by show _ = crashStep d 2 (crashTo d cs 2); rw [← show st = crashTo d cs 2 from Hst.out]; simp only [crashStep, HS.out, if_true]; rfl),
            Hv.out.upd hU (by simp), Hu.out.trans hU, HD2.out⟩
        case measure => simp [intOf]
      · have HS := Lib.hid (show (d.get 2).safe = false by simpa [FileS.safe, DiskS.get] using hsafe)
        have hsafe' : (d.f2.now.toList == d.f2.sure.toList) = false := by simpa using hsafe
        go_wp2_with fail
        refine (safe_any _ _ _ _).mono ?_
        rintro e w1 ⟨rfl, hu1⟩
        rw [hsafe']
        have hd1 : DiskAt w1 b st.1 := Blk.upd (Blk.alloc Hd.out _) hu1 (by simp)
        have hn1 := (Blk.upd (Blk.new wr _ _) hu1 (by simp)).cell
        have hv1 : IntsAt b w1 u1 st.2 := (Hv.out.upd (L := []) ((Upd.refl _ _).alloc _) (by simp)).upd hu1 (by simp)
        have hl1 := hd1.lt
        have hsz := hu1.size
        simp only [World.size_alloc] at hsz
        have HU1 := Lib.hid hu1
        have HD1 := Lib.hid hd1
        clear hu1 hd1
        obtain ⟨a, c, e1, h2, h3, h4⟩ := hv1
        obtain ⟨s1, s2⟩ := st
        simp only at *
        cases s2 with
        | nil =>
          subst e1
          have HV := Lib.hid (show IntsAt b w1 (.slice a ([] : List Int).length c) [] from ⟨a, c, rfl, h2, h3, h4⟩)
          clear h4 h2
          go_wp2_with fail
          refine (left_any (d.get 2) 0 _ (DiskS.get_small hs 2) (ho 2)).mono ?_
          rintro e w2 ⟨rfl, hu2⟩
          have hd2 : DiskAt w2 b s1 := HD1.out.upd hu2 (by simp)
          have HU2 := Lib.hid hu2
          have HD2 := Lib.hid hd2
          clear hu2 hd2
          go_wp2_with fail
          refine (settle_any s1 2 ((d.get 2).left 0) _ b HD2.out (by omega)).mono ?_
          rintro e w3 ⟨rfl, hu3, hd3⟩
          have HU3 := Lib.hid hu3
          have HD3 := Lib.hid hd3
          clear hu3 hd3
          go_wp2
          go_roundw
          case rel =>
            have hU1 : Upd [b] w1 w3 := (HU2.out.mono (by simp)).trans HU3.out
            have hU : Upd [b] wr w3 := (((Upd.refl _ _).alloc _).trans (HU1.out.mono (by simp))).trans hU1
            exact ⟨3, (s1.set 2 ⟨(d.get 2).left 0, (d.get 2).left 0, false⟩, []), by omega, by omega, rfl,
              (by show _ = crashStep d 2 (crashTo d cs 2); rw [← show _ = crashTo d cs 2 from Hst.out]; simp [crashStep, HS.out]),
              HV.out.upd hU1 (by simp), Hu.out.trans hU, HD3.out⟩
          case measure => simp [intOf]
        | cons x xs =>
          obtain ⟨k', o, rfl, hkB, hkl, hcs⟩ := h4 (by simp)
          subst e1
          have hx : w1.cell? ⟨k', o, none⟩ = some (.int .i64 x) := by simpa using hcs 0 (by simp)
          have hcs' : ∀ i, i < xs.length → w1.cell? ⟨k', o + 1 + i, none⟩ = some (.int .i64 (xs.getD i 0)) := fun i hi => by
            have := hcs (i + 1) (by simpa using hi)
            rw [show o + 1 + i = o + (i + 1) by omega]
            simpa using this
          have Hcs := Lib.hid hcs'
          simp only [List.length_cons] at h2
          clear hcs hcs' h4
          by_cases hcap : c = 1
          · subst hcap
            obtain rfl : xs = [] := List.length_eq_zero_iff.1 (by omega)
            have HV := Lib.hid (show IntsAt b w1 (.slice (some ⟨k', o, none⟩) 0 0) [] from ⟨_, 0, rfl, by simp, by omega, by simp⟩)
            go_wp2_with fail
            go_region
            go_wp2_with fail
            refine (left_any (d.get 2) x _ (DiskS.get_small hs 2) (ho 2)).mono ?_
            rintro e w2 ⟨rfl, hu2⟩
            have hd2 : DiskAt w2 b s1 := (show DiskAt w1.drew b s1 from HD1.out).upd hu2 (by simp)
            have HU2 := Lib.hid hu2
            have HD2 := Lib.hid hd2
            clear hu2 hd2
            go_wp2_with fail
            refine (settle_any s1 2 ((d.get 2).left x) _ b HD2.out (by omega)).mono ?_
            rintro e w3 ⟨rfl, hu3, hd3⟩
            have HU3 := Lib.hid hu3
            have HD3 := Lib.hid hd3
            clear hu3 hd3
            go_wp2
            go_roundw
            case rel =>
              have hU1 : Upd [b] w1 w3 := (((Upd.refl _ _).drew).trans (HU2.out.mono (by simp))).trans HU3.out
              have hU : Upd [b] wr w3 := (((Upd.refl _ _).alloc _).trans (HU1.out.mono (by simp))).trans hU1
              exact ⟨3, (s1.set 2 ⟨(d.get 2).left x, (d.get 2).left x, false⟩, []), by omega, by omega, rfl,
                (by show _ = crashStep d 2 (crashTo d cs 2); rw [← show _ = crashTo d cs 2 from Hst.out]; simp [crashStep, HS.out]),
                HV.out.upd hU1 (by simp), Hu.out.trans hU, HD3.out⟩
            case measure => simp [intOf]
          · have HV := Lib.hid (show IntsAt b w1 (.slice (some ⟨k', o + 1, none⟩) xs.length (c - 1)) xs from ⟨_, c - 1, rfl, by omega, by omega, fun _ => ⟨k', o + 1, rfl, hkB, hkl, Hcs.out⟩⟩)
            go_wp2_with fail
            go_region
            go_wp2_with fail
            refine (left_any (d.get 2) x _ (DiskS.get_small hs 2) (ho 2)).mono ?_
            rintro e w2 ⟨rfl, hu2⟩
            have hd2 : DiskAt w2 b s1 := (show DiskAt w1.drew b s1 from HD1.out).upd hu2 (by simp)
            have HU2 := Lib.hid hu2
            have HD2 := Lib.hid hd2
            clear hu2 hd2
            go_wp2_with fail
            refine (settle_any s1 2 ((d.get 2).left x) _ b HD2.out (by omega)).mono ?_
            rintro e w3 ⟨rfl, hu3, hd3⟩
            have HU3 := Lib.hid hu3
            have HD3 := Lib.hid hd3
            clear hu3 hd3
            go_wp2
            go_roundw
            case rel =>
              have hU1 : Upd [b] w1 w3 := (((Upd.refl _ _).drew).trans (HU2.out.mono (by simp))).trans HU3.out
              have hU : Upd [b] wr w3 := (((Upd.refl _ _).alloc _).trans (HU1.out.mono (by simp))).trans hU1
              exact ⟨3, (s1.set 2 ⟨(d.get 2).left x, (d.get 2).left x, false⟩, xs), by omega, by omega, rfl,
                (by show _ = crashStep d 2 (crashTo d cs 2); rw [← show _ = crashTo d cs 2 from Hst.out]; simp [crashStep, HS.out]),
                HV.out.upd hU1 (by simp), Hu.out.trans hU, HD3.out⟩
            case measure => simp [intOf]
    · by_cases hsafe : (d.f3.now.toList == d.f3.sure.toList) = true
      · have HS := Lib.hid (show (d.get 3).safe = true from hsafe)
        go_wp2_with fail
        refine (safe_any _ _ _ _).mono ?_
        rintro e w1 ⟨rfl, hu1⟩
        rw [hsafe]
        have hd1 : DiskAt w1 b st.1 := Blk.upd (Blk.alloc Hd.out _) hu1 (by simp)
        have hn1 := (Blk.upd (Blk.new wr _ _) hu1 (by simp)).cell
        have hl1 := hd1.lt
        have hsz := hu1.size
        simp only [World.size_alloc] at hsz
        have HU1 := Lib.hid hu1
        have HD1 := Lib.hid hd1
        clear hu1 hd1
        go_wp2_with fail
        refine (settle_any st.1 3 d.f3.now _ b HD1.out (by omega)).mono ?_
        rintro e w2 ⟨rfl, hu2, hd2⟩
        have HU2 := Lib.hid hu2
        have HD2 := Lib.hid hd2
        clear hu2 hd2
        go_wp2
        go_roundw
        case rel =>
          have hU : Upd [b] wr w2 := (((Upd.refl _ _).alloc _).trans (HU1.out.mono (by simp))).trans HU2.out
          exact ⟨4, (st.1.set 3 ⟨d.f3.now, d.f3.now, false⟩, st.2), by omega, by omega, rfl,
            (by show _ = crashStep d 3 (crashTo d cs 3); rw [← show st = crashTo d cs 3 from Hst.out]; simp only [crashStep, HS.out, if_true]; rfl),
            Hv.out.upd hU (by simp), Hu.out.trans hU, HD2.out⟩
        case measure => simp [intOf]
      · have HS := Lib.hid (show (d.get 3).safe = false by simpa [FileS.safe, DiskS.get] using hsafe)
        have hsafe' : (d.f3.now.toList == d.f3.sure.toList) = false := by simpa using hsafe
        go_wp2_with fail
        refine (safe_any _ _ _ _).mono ?_
        rintro e w1 ⟨rfl, hu1⟩
        rw [hsafe']
        have hd1 : DiskAt w1 b st.1 := Blk.upd (Blk.alloc Hd.out _) hu1 (by simp)
        have hn1 := (Blk.upd (Blk.new wr _ _) hu1 (by simp)).cell
        have hv1 : IntsAt b w1 u1 st.2 := (Hv.out.upd (L := []) ((Upd.refl _ _).alloc _) (by simp)).upd hu1 (by simp)
        have hl1 := hd1.lt
        have hsz := hu1.size
        simp only [World.size_alloc] at hsz
        have HU1 := Lib.hid hu1
        have HD1 := Lib.hid hd1
        clear hu1 hd1
        obtain ⟨a, c, e1, h2, h3, h4⟩ := hv1
        obtain ⟨s1, s2⟩ := st
        simp only at *
        cases s2 with
        | nil =>
          subst e1
          have HV := Lib.hid (show IntsAt b w1 (.slice a ([] : List Int).length c) [] from ⟨a, c, rfl, h2, h3, h4⟩)
          clear h4 h2
          go_wp2_with fail
          refine (left_any (d.get 3) 0 _ (DiskS.get_small hs 3) (ho 3)).mono ?_
          rintro e w2 ⟨rfl, hu2⟩
          have hd2 : DiskAt w2 b s1 := HD1.out.upd hu2 (by simp)
          have HU2 := Lib.hid hu2
          have HD2 := Lib.hid hd2
          clear hu2 hd2
          go_wp2_with fail
          refine (settle_any s1 3 ((d.get 3).left 0) _ b HD2.out (by omega)).mono ?_
          rintro e w3 ⟨rfl, hu3, hd3⟩
          have HU3 := Lib.hid hu3
          have HD3 := Lib.hid hd3
          clear hu3 hd3
          go_wp2
          go_roundw
          case rel =>
            have hU1 : Upd [b] w1 w3 := (HU2.out.mono (by simp)).trans HU3.out
            have hU : Upd [b] wr w3 := (((Upd.refl _ _).alloc _).trans (HU1.out.mono (by simp))).trans hU1
            exact ⟨4, (s1.set 3 ⟨(d.get 3).left 0, (d.get 3).left 0, false⟩, []), by omega, by omega, rfl,
              (by show _ = crashStep d 3 (crashTo d cs 3); rw [← show _ = crashTo d cs 3 from Hst.out]; simp [crashStep, HS.out]),
              HV.out.upd hU1 (by simp), Hu.out.trans hU, HD3.out⟩
          case measure => simp [intOf]
        | cons x xs =>
          obtain ⟨k', o, rfl, hkB, hkl, hcs⟩ := h4 (by simp)
          subst e1
          have hx : w1.cell? ⟨k', o, none⟩ = some (.int .i64 x) := by simpa using hcs 0 (by simp)
          have hcs' : ∀ i, i < xs.length → w1.cell? ⟨k', o + 1 + i, none⟩ = some (.int .i64 (xs.getD i 0)) := fun i hi => by
            have := hcs (i + 1) (by simpa using hi)
            rw [show o + 1 + i = o + (i + 1) by omega]
            simpa using this
          have Hcs := Lib.hid hcs'
          simp only [List.length_cons] at h2
          clear hcs hcs' h4
          by_cases hcap : c = 1
          · subst hcap
            obtain rfl : xs = [] := List.length_eq_zero_iff.1 (by omega)
            have HV := Lib.hid (show IntsAt b w1 (.slice (some ⟨k', o, none⟩) 0 0) [] from ⟨_, 0, rfl, by simp, by omega, by simp⟩)
            go_wp2_with fail
            go_region
            go_wp2_with fail
            refine (left_any (d.get 3) x _ (DiskS.get_small hs 3) (ho 3)).mono ?_
            rintro e w2 ⟨rfl, hu2⟩
            have hd2 : DiskAt w2 b s1 := (show DiskAt w1.drew b s1 from HD1.out).upd hu2 (by simp)
            have HU2 := Lib.hid hu2
            have HD2 := Lib.hid hd2
            clear hu2 hd2
            go_wp2_with fail
            refine (settle_any s1 3 ((d.get 3).left x) _ b HD2.out (by omega)).mono ?_
            rintro e w3 ⟨rfl, hu3, hd3⟩
            have HU3 := Lib.hid hu3
            have HD3 := Lib.hid hd3
            clear hu3 hd3
            go_wp2
            go_roundw
            case rel =>
              have hU1 : Upd [b] w1 w3 := (((Upd.refl _ _).drew).trans (HU2.out.mono (by simp))).trans HU3.out
              have hU : Upd [b] wr w3 := (((Upd.refl _ _).alloc _).trans (HU1.out.mono (by simp))).trans hU1
              exact ⟨4, (s1.set 3 ⟨(d.get 3).left x, (d.get 3).left x, false⟩, []), by omega, by omega, rfl,
                (by show _ = crashStep d 3 (crashTo d cs 3); rw [← show _ = crashTo d cs 3 from Hst.out]; simp [crashStep, HS.out]),
                HV.out.upd hU1 (by simp), Hu.out.trans hU, HD3.out⟩
            case measure => simp [intOf]
          · have HV := Lib.hid (show IntsAt b w1 (.slice (some ⟨k', o + 1, none⟩) xs.length (c - 1)) xs from ⟨_, c - 1, rfl, by omega, by omega, fun _ => ⟨k', o + 1, rfl, hkB, hkl, Hcs.out⟩⟩)
            go_wp2_with fail
            go_region
            go_wp2_with fail
            refine (left_any (d.get 3) x _ (DiskS.get_small hs 3) (ho 3)).mono ?_
            rintro e w2 ⟨rfl, hu2⟩
            have hd2 : DiskAt w2 b s1 := (show DiskAt w1.drew b s1 from HD1.out).upd hu2 (by simp)
            have HU2 := Lib.hid hu2
            have HD2 := Lib.hid hd2
            clear hu2 hd2
            go_wp2_with fail
            refine (settle_any s1 3 ((d.get 3).left x) _ b HD2.out (by omega)).mono ?_
            rintro e w3 ⟨rfl, hu3, hd3⟩
            have HU3 := Lib.hid hu3
            have HD3 := Lib.hid hd3
            clear hu3 hd3
            go_wp2
            go_roundw
            case rel =>
              have hU1 : Upd [b] w1 w3 := (((Upd.refl _ _).drew).trans (HU2.out.mono (by simp))).trans HU3.out
              have hU : Upd [b] wr w3 := (((Upd.refl _ _).alloc _).trans (HU1.out.mono (by simp))).trans hU1
              exact ⟨4, (s1.set 3 ⟨(d.get 3).left x, (d.get 3).left x, false⟩, xs), by omega, by omega, rfl,
                (by show _ = crashStep d 3 (crashTo d cs 3); rw [← show _ = crashTo d cs 3 from Hst.out]; simp [crashStep, HS.out]),
                HV.out.upd hU1 (by simp), Hu.out.trans hU, HD3.out⟩
            case measure => simp [intOf]
    · go_wp2
      go_end0
      have e4 : st = crashTo d cs 4 := Hst.out
      exact ⟨rfl, Hu.out, by rw [DiskS.crashIt, ← e4]; exact Hd.out⟩
end Go.Proofs.Ytjaoiaknglnomaa
