/-
  The document's disk (chatelaineref11), walked: New, Do. Conditions: strings of at most 2^30 bytes each.
-/
import Derived.Test.YtjaoiaknglnomaaRef11b
import Derived.Deep.RegionWith
set_option linter.unusedVariables false
set_option maxRecDepth 100000
set_option linter.unusedSimpArgs false
namespace Go.Proofs.Ytjaoiaknglnomaa
open Go.RowKit

def FileS.none : FileS := ⟨⟨#[]⟩, ⟨#[]⟩, false⟩
def DiskS.fresh (room fail : Int) : DiskS := ⟨FileS.none, FileS.none, FileS.none, FileS.none, room, fail⟩

theorem new_ref (r : Int) (w : World) :
    Calls Try.prog 16 #[.int .i64 r] w fun e w' =>
      ∃ l', e = .returned (.agg #[l', .int .i64 (max r 0), .int .i64 (-1)]) ∧ Upd [] w w' ∧ RefAt w.heap.size w' l' (DiskS.fresh (max r 0) (-1)) := by
  go_enter Try.func16, Try.ntmps16
  go_wp2
  · have e : max r 0 = 0 := by omega
    rw [e]
    refine bodyPost_ret (v := .agg #[.slice (some ⟨w.heap.size + 1, 0, none⟩) 4 4, .int .i64 0, .int .i64 (-1)]) (by simp [results, Try.results16, go_sem]) rfl ?_
    exact ⟨_, rfl, ((Upd.refl _ _).alloc _).alloc _, rfl, .inr ⟨w.heap.size + 1, 4, _, rfl, by omega, Blk.new' _ _ _ (by simp), by omega, by unfold maxLen; omega, rfl, rfl⟩⟩
  · have e : max r 0 = r := by omega
    rw [e]
    refine bodyPost_ret (v := .agg #[.slice (some ⟨w.heap.size + 1, 0, none⟩) 4 4, .int .i64 r, .int .i64 (-1)]) (by simp [results, Try.results16, go_sem]) rfl ?_
    exact ⟨_, rfl, ((Upd.refl _ _).alloc _).alloc _, rfl, .inr ⟨w.heap.size + 1, 4, _, rfl, by omega, Blk.new' _ _ _ (by simp), by omega, by unfold maxLen; omega, rfl, rfl⟩⟩

def refFail (x : DiskS) : DiskS := { x with fail := if 0 < x.fail then x.fail - 1 else x.fail }
def refFile (kind : Int) (f : FileS) (s : ByteArray) : FileS := if kind = 0 then ⟨f.now ++ s, f.sure, f.put⟩ else if kind = 1 then ⟨s, f.sure, true⟩ else ⟨f.now, f.now, false⟩
/-- What the document's Do answers. -/
def refDo (x : DiskS) (kind i : Int) (s : ByteArray) : DiskS × Int :=
  if i < 0 ∨ 3 < i then (x, 1) else if x.fail = 0 then ({ x with fail := -1 }, 8)
  else
    let x1 := refFail x
    let y := x1.set i.toNat (refFile kind (x1.get i.toNat) s)
    if kind = 0 ∨ kind = 1 then (if x1.room < y.used ∧ x1.used < y.used then (x1, 17) else (y, 0)) else (y, 0)

theorem DiskS.set_small {d : DiskS} {f : FileS} (h : d.small) (hf : f.small) (i : Nat) : (d.set i f).small := by
  obtain ⟨h0, h1, h2, h3⟩ := h
  match i with
  | 0 => exact ⟨hf, h1, h2, h3⟩
  | 1 => exact ⟨h0, hf, h2, h3⟩
  | 2 => exact ⟨h0, h1, hf, h3⟩
  | _ + 3 => exact ⟨h0, h1, h2, hf⟩
theorem DiskS.set_room (d : DiskS) (f : FileS) (i : Nat) : (d.set i f).room = d.room := by
  match i with
  | 0 => rfl
  | 1 => rfl
  | 2 => rfl
  | _ + 3 => rfl
theorem DiskS.set_fail (d : DiskS) (f : FileS) (i : Nat) : (d.set i f).fail = d.fail := by
  match i with
  | 0 => rfl
  | 1 => rfl
  | 2 => rfl
  | _ + 3 => rfl

set_option maxHeartbeats 4000000 in
theorem do_ref (x : DiskS) (l : Value) (kind i : Int) (s : ByteArray) (w : World) (B : Nat) (hx : RefAt B w l x) (hs : x.small) (hy : ∀ f ∈ [x.f0, x.f1, x.f2, x.f3], f.now.size + s.size ≤ 1099511627776) (hB : B ≤ w.heap.size) (hf : -1 ≤ x.fail) (hf' : x.fail ≤ 1073741825) :
    Calls Try.prog 21 #[.agg #[l, .int .i64 x.room, .int .i64 x.fail], .int .i64 kind, .int .i64 i, .string s] w fun e w' =>
      ∃ l', e = .returned (.tuple #[.agg #[l', .int .i64 (refDo x kind i s).1.room, .int .i64 (refDo x kind i s).1.fail], .int .i64 (refDo x kind i s).2]) ∧ Upd [] w w' ∧ RefAt B w' l' (refDo x kind i s).1 := by
  obtain ⟨g, cap, rfl, hg, hgl, hcap, hc, hz⟩ := own_cases hx (by omega)
  by_cases hi : i < 0 ∨ 3 < i
  · have hR : refDo x kind i s = (x, 1) := by simp [refDo, hi]
    have HR := hd hR
    have HX := hd hx
    clear hR hc hz hx hy
    rcases hi with hi | hi
    all_goals
      go_enter Try.func21, Try.ntmps21
      go_wp2
      rw [HR.out]
      refine bodyPost_ret (v := .tuple #[.agg #[.slice (some ⟨g, 0, none⟩) 4 cap, .int .i64 x.room, .int .i64 x.fail], .int .i64 1]) (by simp [results, Try.results21, go_sem]) rfl ?_
      exact ⟨_, rfl, ((Upd.refl _ _).alloc _).alloc _, own_upd (L := []) HX.out (((Upd.refl _ _).alloc _).alloc _) (fun _ _ => by simp)⟩
  · by_cases hf0 : x.fail = 0
    · have hR : refDo x kind i s = ({ x with fail := -1 }, 8) := by simp only [refDo, hi, if_false, hf0, if_true]
      have HR := hd hR
      have HX := hd hx
      have hi1 : ¬ i < 0 := by omega
      have hi2 : ¬ 3 < i := by omega
      have hf1 : (x.fail == 0) = true := by simpa using hf0
      clear hR hc hz hx hy hi hf0
      go_enter Try.func21, Try.ntmps21
      go_wp2
      rw [HR.out]
      refine bodyPost_ret (v := .tuple #[.agg #[.slice (some ⟨g, 0, none⟩) 4 cap, .int .i64 x.room, .int .i64 (-1)], .int .i64 8]) (by simp [results, Try.results21, go_sem]) rfl ?_
      exact ⟨_, rfl, ((Upd.refl _ _).alloc _).alloc _, own_upd (L := []) HX.out (((Upd.refl _ _).alloc _).alloc _) (fun _ _ => by simp)⟩
    · obtain ⟨i, rfl⟩ : ∃ k : Nat, i = k := ⟨i.toNat, by omega⟩
      have hi4 : i < 4 := by omega
      have hi1 : ¬ (i : Int) < 0 := by omega
      have hi2 : ¬ 3 < (i : Int) := by omega
      have hf1 : (x.fail == 0) = false := by simpa using hf0
      obtain ⟨r0, r1, r2⟩ := x.rows_get i hi4
      have n0 := (hc (i * 3) (by omega)).trans r0
      have n1 := (hc (i * 3 + 1) (by omega)).trans r1
      have n2 := (hc (i * 3 + 2) (by omega)).trans r2
      have hsm := DiskS.get_small hs i
      have hsy : (x.get i).now.size + s.size ≤ 1099511627776 := by
        rcases (by omega : i = 0 ∨ i = 1 ∨ i = 2 ∨ i = 3) with rfl | rfl | rfl | rfl <;> exact hy _ (by simp [DiskS.get])
      obtain ⟨sm0, sm1⟩ := hsm
      have HX := hd hx
      have HI := hd hi
      have HF0 := hd hf0
      clear r0 r1 r2 hc hz hx hy hi hf0
      by_cases hfp : 0 < x.fail
      · have HFF := hd (show refFail x = { x with fail := x.fail - 1 } by simp [refFail, hfp])
        by_cases hk0 : kind = 0
        · have HRF := hd (show refFile 0 (x.get i) s = ⟨(x.get i).now ++ s, (x.get i).sure, (x.get i).put⟩ by simp [refFile])
          have HRD := hd (show refDo x 0 i s = if x.room < (({ x with fail := x.fail - 1 } : DiskS).set i ⟨(x.get i).now ++ s, (x.get i).sure, (x.get i).put⟩).used ∧ x.used < (({ x with fail := x.fail - 1 } : DiskS).set i ⟨(x.get i).now ++ s, (x.get i).sure, (x.get i).put⟩).used then (({ x with fail := x.fail - 1 } : DiskS), 17) else ((({ x with fail := x.fail - 1 } : DiskS).set i ⟨(x.get i).now ++ s, (x.get i).sure, (x.get i).put⟩), 0) by
            simp only [refDo, HI.out, HF0.out, HFF.out, if_false, Int.toNat_natCast, true_or, if_true]
            first | rfl | (rw [show ({ x with fail := x.fail - 1 } : DiskS).get i = x.get i from rfl, HRF.out]; done) | (rw [show ({ x with fail := x.fail - 1 } : DiskS).get i = x.get i from rfl, HRF.out]; rfl))
          have hFS : (⟨(x.get i).now ++ s, (x.get i).sure, (x.get i).put⟩ : FileS).small := ⟨by first | assumption | (simpa using hsy), by assumption⟩
          subst hk0
          go_enter Try.func21, Try.ntmps21
          go_wp2_with fail
          refine (with_any ({ x with fail := x.fail - 1 } : DiskS) (.slice (some ⟨g, 0, none⟩) 4 cap) i ⟨(x.get i).now ++ s, (x.get i).sure, (x.get i).put⟩ _ B (own_upd (L := []) HX.out (by repeat (first | with_reducible exact HX.out | with_reducible exact Upd.refl _ _ | with_reducible refine Upd.alloc ?_ _ | with_reducible refine Upd.drew ?_ | with_reducible refine Upd.setCell ?_ (by first | (simp; done) | (simp; omega)) _)) (fun _ _ => by simp)) hi4 (by simp; omega)).mono ?_
          rintro e w3 ⟨l3, rfl, hu3, hr3⟩
          obtain ⟨g3, cap3, rfl, hg3, hgl3, _, _, _⟩ := own_cases hr3 (by omega)
          have hbd := Blk.upd (((Blk.new w _ _).alloc _).alloc _) hu3 (by simp)
          have hbr := Blk.upd ((Blk.new' (w.alloc _) _ _ (k := w.heap.size + 1) (by simp)).alloc _) hu3 (by simp)
          have hU3 : Upd [] w w3 := ((((Upd.refl [] w).alloc _).alloc _).alloc _).trans hu3
          simp only [World.size_alloc] at hg3
          have HY := hd (DiskS.set_small (d := ({ x with fail := x.fail - 1 } : DiskS)) (f := ⟨(x.get i).now ++ s, (x.get i).sure, (x.get i).put⟩) hs hFS i)
          have hbY := HY.out.used
          have hbX := hs.used
          have HYR := hd (show (({ x with fail := x.fail - 1 } : DiskS).set i ⟨(x.get i).now ++ s, (x.get i).sure, (x.get i).put⟩).room = x.room from DiskS.set_room _ _ _)
          have HYF := hd (show (({ x with fail := x.fail - 1 } : DiskS).set i ⟨(x.get i).now ++ s, (x.get i).sure, (x.get i).put⟩).fail = x.fail - 1 from DiskS.set_fail _ _ _)
          generalize hY : (({ x with fail := x.fail - 1 } : DiskS).set i ⟨(x.get i).now ++ s, (x.get i).sure, (x.get i).put⟩) = Y at *
          have HYe := hd hY
          clear hY
          have hW := hbd.alloc (.cells #[.slice (some ⟨g3, 0, none⟩) 4 cap3, .int .i64 x.room, .int .i64 (x.fail - 1)] 28)
          have hWr := hbr.alloc (.cells #[.slice (some ⟨g3, 0, none⟩) 4 cap3, .int .i64 x.room, .int .i64 (x.fail - 1)] 28)
          have hWx := Blk.new w3 #[.slice (some ⟨g3, 0, none⟩) 4 cap3, .int .i64 x.room, .int .i64 (x.fail - 1)] 28
          have hUW := hU3.alloc (.cells #[.slice (some ⟨g3, 0, none⟩) 4 cap3, .int .i64 x.room, .int .i64 (x.fail - 1)] 28)
          have hrW := own_upd (L := []) (own_mono hr3 (B' := w.heap.size + 2) (by simp only [World.size_alloc]; omega)) ((Upd.refl [] w3).alloc (.cells #[.slice (some ⟨g3, 0, none⟩) 4 cap3, .int .i64 x.room, .int .i64 (x.fail - 1)] 28)) (fun _ _ => by simp)
          have hlr := hbr.lt
          clear hr3 hu3 hbd hbr hU3
          go_wp2_with fail
          generalize w3.alloc (.cells #[.slice (some ⟨g3, 0, none⟩) 4 cap3, .int .i64 x.room, .int .i64 (x.fail - 1)] 28) = W at *
          have hcd : ∀ (y : Later [] W) o, y.world.cell? ⟨w.heap.size, o, none⟩ = #[Value.slice (some ⟨g, 0, none⟩) 4 cap, .int .i64 x.room, .int .i64 (x.fail - 1)][o]? := fun y => (y.blk hW (by simp)).cell
          have hcx : ∀ (y : Later [] W) o, y.world.cell? ⟨w3.heap.size, o, none⟩ = #[Value.slice (some ⟨g3, 0, none⟩) 4 cap3, .int .i64 x.room, .int .i64 (x.fail - 1)][o]? := fun y => (y.blk hWx (by simp)).cell
          have hxW := own_upd (L := []) HX.out hUW (fun _ _ => by simp)
          have HWr := hd hWr
          have HW := hd hW
          have HWx := hd hWx
          have HUW := hd hUW
          have HRW := hd hrW
          have HXW := hd hxW
          clear hWr hW hWx hUW hrW hxW
          by_cases hro : x.room < (Y.used : Int)
          · by_cases hus : x.used < Y.used
            · skip
              refine wp_region_later [] (by kernel_rfl) (by kernel_rfl) ?_
              have HRY : Hd (∀ y : Later [] W, Calls Try.prog 53 #[.agg #[.slice (some ⟨g3, 0, none⟩) 4 cap3, .int .i64 x.room, .int .i64 (x.fail - 1)]] y.world fun e w' => e = .returned (.int .i64 (Y.used : Int)) ∧ Upd [] y.world w') := hd (fun y => (used_ref { Y with room := x.room, fail := x.fail - 1 } (.slice (some ⟨g3, 0, none⟩) 4 cap3) y.world (w.heap.size + 2) (own_upd (L := []) HRW.out y.upd (fun _ _ => by simp)) HY.out))
              have HRX : Hd (∀ y : Later [] W, Calls Try.prog 53 #[.agg #[.slice (some ⟨g, 0, none⟩) 4 cap, .int .i64 x.room, .int .i64 (x.fail - 1)]] y.world fun e w' => e = .returned (.int .i64 (x.used : Int)) ∧ Upd [] y.world w') := hd (fun y => (used_ref ({ x with fail := x.fail - 1 } : DiskS) (.slice (some ⟨g, 0, none⟩) 4 cap) y.world B (own_upd (L := []) HXW.out y.upd (fun _ _ => by simp)) hs))
              repeat (go_big_quiet_step ((go_at_call 53; first | (with_reducible exact later_call (HRY.out _)) | (with_reducible exact later_call (HRX.out _)))))
              refine wpQuiet_nil ?_
              intro W2 hu2
              have hbr := HWr.out.upd hu2 (by simp)
              have hcr := hbr.cell
              have hzr := hbr.frozen
              have hcd := (HW.out.upd hu2 (by simp)).cell
              have hcx := (HWx.out.upd hu2 (by simp)).cell
              have HR3 := hd (own_upd (L := []) HRW.out hu2 (fun _ _ => by simp))
              have HX3 := hd (own_upd (L := []) HXW.out hu2 (fun _ _ => by simp))
              have HU3 := hd (HUW.out.trans hu2)
              have hlt2 := hbr.lt
              have hltx := (HWx.out.upd hu2 (by simp)).lt
              have hltd := (HW.out.upd hu2 (by simp)).lt
              clear hu2 hbr HRY HRX
              go_wp2
              rw [HRD.out, if_pos ⟨hro, hus⟩]
              refine bodyPost_ret (v := .tuple #[.agg #[.slice (some ⟨g, 0, none⟩) 4 cap, .int .i64 x.room, .int .i64 (x.fail - 1)], .int .i64 17]) (by simp [results, Try.results21, go_sem, hcr]) rfl ?_
              refine ⟨_, by first | (simp only [DiskS.set_room, DiskS.set_fail]; rfl) | rfl | (simp only [DiskS.set_room, DiskS.set_fail]; rfl) | (simp only [HYR.out, HYF.out]; rfl), (HU3.out.trans' (M := [w.heap.size + 1]) ((((Upd.refl _ _).setCell (by simp) _).setCell (by simp) _).setCell (by simp) _) (by simp)), ?_⟩
              exact own_mono (own_upd (L := [w.heap.size + 1]) HX3.out ((((Upd.refl _ _).setCell (by simp) _).setCell (by simp) _).setCell (by simp) _) (by simp [Value.ownBlock]; omega)) (by omega)
            · skip
              refine wp_region_later [] (by kernel_rfl) (by kernel_rfl) ?_
              have HRY : Hd (∀ y : Later [] W, Calls Try.prog 53 #[.agg #[.slice (some ⟨g3, 0, none⟩) 4 cap3, .int .i64 x.room, .int .i64 (x.fail - 1)]] y.world fun e w' => e = .returned (.int .i64 (Y.used : Int)) ∧ Upd [] y.world w') := hd (fun y => (used_ref { Y with room := x.room, fail := x.fail - 1 } (.slice (some ⟨g3, 0, none⟩) 4 cap3) y.world (w.heap.size + 2) (own_upd (L := []) HRW.out y.upd (fun _ _ => by simp)) HY.out))
              have HRX : Hd (∀ y : Later [] W, Calls Try.prog 53 #[.agg #[.slice (some ⟨g, 0, none⟩) 4 cap, .int .i64 x.room, .int .i64 (x.fail - 1)]] y.world fun e w' => e = .returned (.int .i64 (x.used : Int)) ∧ Upd [] y.world w') := hd (fun y => (used_ref ({ x with fail := x.fail - 1 } : DiskS) (.slice (some ⟨g, 0, none⟩) 4 cap) y.world B (own_upd (L := []) HXW.out y.upd (fun _ _ => by simp)) hs))
              repeat (go_big_quiet_step ((go_at_call 53; first | (with_reducible exact later_call (HRY.out _)) | (with_reducible exact later_call (HRX.out _)))))
              refine wpQuiet_nil ?_
              intro W2 hu2
              have hbr := HWr.out.upd hu2 (by simp)
              have hcr := hbr.cell
              have hzr := hbr.frozen
              have hcd := (HW.out.upd hu2 (by simp)).cell
              have hcx := (HWx.out.upd hu2 (by simp)).cell
              have HR3 := hd (own_upd (L := []) HRW.out hu2 (fun _ _ => by simp))
              have HX3 := hd (own_upd (L := []) HXW.out hu2 (fun _ _ => by simp))
              have HU3 := hd (HUW.out.trans hu2)
              have hlt2 := hbr.lt
              have hltx := (HWx.out.upd hu2 (by simp)).lt
              have hltd := (HW.out.upd hu2 (by simp)).lt
              clear hu2 hbr HRY HRX
              go_wp2
              rw [HRD.out, if_neg (fun h => by have := h.2; omega)]
              refine bodyPost_ret (v := .tuple #[.agg #[.slice (some ⟨g3, 0, none⟩) 4 cap3, .int .i64 x.room, .int .i64 (x.fail - 1)], .int .i64 0]) (by simp [results, Try.results21, go_sem, hcr]) rfl ?_
              refine ⟨_, by first | (simp only [DiskS.set_room, DiskS.set_fail]; rfl) | rfl | (simp only [DiskS.set_room, DiskS.set_fail]; rfl) | (simp only [HYR.out, HYF.out]; rfl), (HU3.out.trans' (M := [w.heap.size + 1]) ((((Upd.refl _ _).setCell (by simp) _).setCell (by simp) _).setCell (by simp) _) (by simp)), ?_⟩
              exact own_mono (own_upd (L := [w.heap.size + 1]) HR3.out ((((Upd.refl _ _).setCell (by simp) _).setCell (by simp) _).setCell (by simp) _) (by simp [Value.ownBlock]; omega)) (by omega)
          · skip
            refine wp_region_later [] (by kernel_rfl) (by kernel_rfl) ?_
            have HRY : Hd (∀ y : Later [] W, Calls Try.prog 53 #[.agg #[.slice (some ⟨g3, 0, none⟩) 4 cap3, .int .i64 x.room, .int .i64 (x.fail - 1)]] y.world fun e w' => e = .returned (.int .i64 (Y.used : Int)) ∧ Upd [] y.world w') := hd (fun y => (used_ref { Y with room := x.room, fail := x.fail - 1 } (.slice (some ⟨g3, 0, none⟩) 4 cap3) y.world (w.heap.size + 2) (own_upd (L := []) HRW.out y.upd (fun _ _ => by simp)) HY.out))
            have HRX : Hd (∀ y : Later [] W, Calls Try.prog 53 #[.agg #[.slice (some ⟨g, 0, none⟩) 4 cap, .int .i64 x.room, .int .i64 (x.fail - 1)]] y.world fun e w' => e = .returned (.int .i64 (x.used : Int)) ∧ Upd [] y.world w') := hd (fun y => (used_ref ({ x with fail := x.fail - 1 } : DiskS) (.slice (some ⟨g, 0, none⟩) 4 cap) y.world B (own_upd (L := []) HXW.out y.upd (fun _ _ => by simp)) hs))
            repeat (go_big_quiet_step ((go_at_call 53; first | (with_reducible exact later_call (HRY.out _)) | (with_reducible exact later_call (HRX.out _)))))
            refine wpQuiet_nil ?_
            intro W2 hu2
            have hbr := HWr.out.upd hu2 (by simp)
            have hcr := hbr.cell
            have hzr := hbr.frozen
            have hcd := (HW.out.upd hu2 (by simp)).cell
            have hcx := (HWx.out.upd hu2 (by simp)).cell
            have HR3 := hd (own_upd (L := []) HRW.out hu2 (fun _ _ => by simp))
            have HX3 := hd (own_upd (L := []) HXW.out hu2 (fun _ _ => by simp))
            have HU3 := hd (HUW.out.trans hu2)
            have hlt2 := hbr.lt
            have hltx := (HWx.out.upd hu2 (by simp)).lt
            have hltd := (HW.out.upd hu2 (by simp)).lt
            clear hu2 hbr HRY HRX
            go_wp2
            rw [HRD.out, if_neg (fun h => by have := h.1; omega)]
            refine bodyPost_ret (v := .tuple #[.agg #[.slice (some ⟨g3, 0, none⟩) 4 cap3, .int .i64 x.room, .int .i64 (x.fail - 1)], .int .i64 0]) (by simp [results, Try.results21, go_sem, hcr]) rfl ?_
            refine ⟨_, by first | (simp only [DiskS.set_room, DiskS.set_fail]; rfl) | rfl | (simp only [DiskS.set_room, DiskS.set_fail]; rfl) | (simp only [HYR.out, HYF.out]; rfl), (HU3.out.trans' (M := [w.heap.size + 1]) ((((Upd.refl _ _).setCell (by simp) _).setCell (by simp) _).setCell (by simp) _) (by simp)), ?_⟩
            exact own_mono (own_upd (L := [w.heap.size + 1]) HR3.out ((((Upd.refl _ _).setCell (by simp) _).setCell (by simp) _).setCell (by simp) _) (by simp [Value.ownBlock]; omega)) (by omega)
        by_cases hk1 : kind = 1
        · have HRF := hd (show refFile 1 (x.get i) s = ⟨s, (x.get i).sure, true⟩ by simp [refFile])
          have HRD := hd (show refDo x 1 i s = if x.room < (({ x with fail := x.fail - 1 } : DiskS).set i ⟨s, (x.get i).sure, true⟩).used ∧ x.used < (({ x with fail := x.fail - 1 } : DiskS).set i ⟨s, (x.get i).sure, true⟩).used then (({ x with fail := x.fail - 1 } : DiskS), 17) else ((({ x with fail := x.fail - 1 } : DiskS).set i ⟨s, (x.get i).sure, true⟩), 0) by
            simp only [refDo, HI.out, HF0.out, HFF.out, if_false, Int.toNat_natCast, or_true, if_true]
            first | rfl | (rw [show ({ x with fail := x.fail - 1 } : DiskS).get i = x.get i from rfl, HRF.out]; done) | (rw [show ({ x with fail := x.fail - 1 } : DiskS).get i = x.get i from rfl, HRF.out]; rfl))
          have hFS : (⟨s, (x.get i).sure, true⟩ : FileS).small := ⟨by first | assumption | (show s.size ≤ _; omega), by assumption⟩
          subst hk1; clear hk0
          go_enter Try.func21, Try.ntmps21
          go_wp2_with fail
          refine (with_any ({ x with fail := x.fail - 1 } : DiskS) (.slice (some ⟨g, 0, none⟩) 4 cap) i ⟨s, (x.get i).sure, true⟩ _ B (own_upd (L := []) HX.out (by repeat (first | with_reducible exact HX.out | with_reducible exact Upd.refl _ _ | with_reducible refine Upd.alloc ?_ _ | with_reducible refine Upd.drew ?_ | with_reducible refine Upd.setCell ?_ (by first | (simp; done) | (simp; omega)) _)) (fun _ _ => by simp)) hi4 (by simp; omega)).mono ?_
          rintro e w3 ⟨l3, rfl, hu3, hr3⟩
          obtain ⟨g3, cap3, rfl, hg3, hgl3, _, _, _⟩ := own_cases hr3 (by omega)
          have hbd := Blk.upd (((Blk.new w _ _).alloc _).alloc _) hu3 (by simp)
          have hbr := Blk.upd ((Blk.new' (w.alloc _) _ _ (k := w.heap.size + 1) (by simp)).alloc _) hu3 (by simp)
          have hU3 : Upd [] w w3 := ((((Upd.refl [] w).alloc _).alloc _).alloc _).trans hu3
          simp only [World.size_alloc] at hg3
          have HY := hd (DiskS.set_small (d := ({ x with fail := x.fail - 1 } : DiskS)) (f := ⟨s, (x.get i).sure, true⟩) hs hFS i)
          have hbY := HY.out.used
          have hbX := hs.used
          have HYR := hd (show (({ x with fail := x.fail - 1 } : DiskS).set i ⟨s, (x.get i).sure, true⟩).room = x.room from DiskS.set_room _ _ _)
          have HYF := hd (show (({ x with fail := x.fail - 1 } : DiskS).set i ⟨s, (x.get i).sure, true⟩).fail = x.fail - 1 from DiskS.set_fail _ _ _)
          generalize hY : (({ x with fail := x.fail - 1 } : DiskS).set i ⟨s, (x.get i).sure, true⟩) = Y at *
          have HYe := hd hY
          clear hY
          have hW := hbd.alloc (.cells #[.slice (some ⟨g3, 0, none⟩) 4 cap3, .int .i64 x.room, .int .i64 (x.fail - 1)] 28)
          have hWr := hbr.alloc (.cells #[.slice (some ⟨g3, 0, none⟩) 4 cap3, .int .i64 x.room, .int .i64 (x.fail - 1)] 28)
          have hWx := Blk.new w3 #[.slice (some ⟨g3, 0, none⟩) 4 cap3, .int .i64 x.room, .int .i64 (x.fail - 1)] 28
          have hUW := hU3.alloc (.cells #[.slice (some ⟨g3, 0, none⟩) 4 cap3, .int .i64 x.room, .int .i64 (x.fail - 1)] 28)
          have hrW := own_upd (L := []) (own_mono hr3 (B' := w.heap.size + 2) (by simp only [World.size_alloc]; omega)) ((Upd.refl [] w3).alloc (.cells #[.slice (some ⟨g3, 0, none⟩) 4 cap3, .int .i64 x.room, .int .i64 (x.fail - 1)] 28)) (fun _ _ => by simp)
          have hlr := hbr.lt
          clear hr3 hu3 hbd hbr hU3
          go_wp2_with fail
          generalize w3.alloc (.cells #[.slice (some ⟨g3, 0, none⟩) 4 cap3, .int .i64 x.room, .int .i64 (x.fail - 1)] 28) = W at *
          have hcd : ∀ (y : Later [] W) o, y.world.cell? ⟨w.heap.size, o, none⟩ = #[Value.slice (some ⟨g, 0, none⟩) 4 cap, .int .i64 x.room, .int .i64 (x.fail - 1)][o]? := fun y => (y.blk hW (by simp)).cell
          have hcx : ∀ (y : Later [] W) o, y.world.cell? ⟨w3.heap.size, o, none⟩ = #[Value.slice (some ⟨g3, 0, none⟩) 4 cap3, .int .i64 x.room, .int .i64 (x.fail - 1)][o]? := fun y => (y.blk hWx (by simp)).cell
          have hxW := own_upd (L := []) HX.out hUW (fun _ _ => by simp)
          have HWr := hd hWr
          have HW := hd hW
          have HWx := hd hWx
          have HUW := hd hUW
          have HRW := hd hrW
          have HXW := hd hxW
          clear hWr hW hWx hUW hrW hxW
          by_cases hro : x.room < (Y.used : Int)
          · by_cases hus : x.used < Y.used
            · skip
              refine wp_region_later [] (by kernel_rfl) (by kernel_rfl) ?_
              have HRY : Hd (∀ y : Later [] W, Calls Try.prog 53 #[.agg #[.slice (some ⟨g3, 0, none⟩) 4 cap3, .int .i64 x.room, .int .i64 (x.fail - 1)]] y.world fun e w' => e = .returned (.int .i64 (Y.used : Int)) ∧ Upd [] y.world w') := hd (fun y => (used_ref { Y with room := x.room, fail := x.fail - 1 } (.slice (some ⟨g3, 0, none⟩) 4 cap3) y.world (w.heap.size + 2) (own_upd (L := []) HRW.out y.upd (fun _ _ => by simp)) HY.out))
              have HRX : Hd (∀ y : Later [] W, Calls Try.prog 53 #[.agg #[.slice (some ⟨g, 0, none⟩) 4 cap, .int .i64 x.room, .int .i64 (x.fail - 1)]] y.world fun e w' => e = .returned (.int .i64 (x.used : Int)) ∧ Upd [] y.world w') := hd (fun y => (used_ref ({ x with fail := x.fail - 1 } : DiskS) (.slice (some ⟨g, 0, none⟩) 4 cap) y.world B (own_upd (L := []) HXW.out y.upd (fun _ _ => by simp)) hs))
              repeat (go_big_quiet_step ((go_at_call 53; first | (with_reducible exact later_call (HRY.out _)) | (with_reducible exact later_call (HRX.out _)))))
              refine wpQuiet_nil ?_
              intro W2 hu2
              have hbr := HWr.out.upd hu2 (by simp)
              have hcr := hbr.cell
              have hzr := hbr.frozen
              have hcd := (HW.out.upd hu2 (by simp)).cell
              have hcx := (HWx.out.upd hu2 (by simp)).cell
              have HR3 := hd (own_upd (L := []) HRW.out hu2 (fun _ _ => by simp))
              have HX3 := hd (own_upd (L := []) HXW.out hu2 (fun _ _ => by simp))
              have HU3 := hd (HUW.out.trans hu2)
              have hlt2 := hbr.lt
              have hltx := (HWx.out.upd hu2 (by simp)).lt
              have hltd := (HW.out.upd hu2 (by simp)).lt
              clear hu2 hbr HRY HRX
              go_wp2
              rw [HRD.out, if_pos ⟨hro, hus⟩]
              refine bodyPost_ret (v := .tuple #[.agg #[.slice (some ⟨g, 0, none⟩) 4 cap, .int .i64 x.room, .int .i64 (x.fail - 1)], .int .i64 17]) (by simp [results, Try.results21, go_sem, hcr]) rfl ?_
              refine ⟨_, by first | (simp only [DiskS.set_room, DiskS.set_fail]; rfl) | rfl | (simp only [DiskS.set_room, DiskS.set_fail]; rfl) | (simp only [HYR.out, HYF.out]; rfl), (HU3.out.trans' (M := [w.heap.size + 1]) ((((Upd.refl _ _).setCell (by simp) _).setCell (by simp) _).setCell (by simp) _) (by simp)), ?_⟩
              exact own_mono (own_upd (L := [w.heap.size + 1]) HX3.out ((((Upd.refl _ _).setCell (by simp) _).setCell (by simp) _).setCell (by simp) _) (by simp [Value.ownBlock]; omega)) (by omega)
            · skip
              refine wp_region_later [] (by kernel_rfl) (by kernel_rfl) ?_
              have HRY : Hd (∀ y : Later [] W, Calls Try.prog 53 #[.agg #[.slice (some ⟨g3, 0, none⟩) 4 cap3, .int .i64 x.room, .int .i64 (x.fail - 1)]] y.world fun e w' => e = .returned (.int .i64 (Y.used : Int)) ∧ Upd [] y.world w') := hd (fun y => (used_ref { Y with room := x.room, fail := x.fail - 1 } (.slice (some ⟨g3, 0, none⟩) 4 cap3) y.world (w.heap.size + 2) (own_upd (L := []) HRW.out y.upd (fun _ _ => by simp)) HY.out))
              have HRX : Hd (∀ y : Later [] W, Calls Try.prog 53 #[.agg #[.slice (some ⟨g, 0, none⟩) 4 cap, .int .i64 x.room, .int .i64 (x.fail - 1)]] y.world fun e w' => e = .returned (.int .i64 (x.used : Int)) ∧ Upd [] y.world w') := hd (fun y => (used_ref ({ x with fail := x.fail - 1 } : DiskS) (.slice (some ⟨g, 0, none⟩) 4 cap) y.world B (own_upd (L := []) HXW.out y.upd (fun _ _ => by simp)) hs))
              repeat (go_big_quiet_step ((go_at_call 53; first | (with_reducible exact later_call (HRY.out _)) | (with_reducible exact later_call (HRX.out _)))))
              refine wpQuiet_nil ?_
              intro W2 hu2
              have hbr := HWr.out.upd hu2 (by simp)
              have hcr := hbr.cell
              have hzr := hbr.frozen
              have hcd := (HW.out.upd hu2 (by simp)).cell
              have hcx := (HWx.out.upd hu2 (by simp)).cell
              have HR3 := hd (own_upd (L := []) HRW.out hu2 (fun _ _ => by simp))
              have HX3 := hd (own_upd (L := []) HXW.out hu2 (fun _ _ => by simp))
              have HU3 := hd (HUW.out.trans hu2)
              have hlt2 := hbr.lt
              have hltx := (HWx.out.upd hu2 (by simp)).lt
              have hltd := (HW.out.upd hu2 (by simp)).lt
              clear hu2 hbr HRY HRX
              go_wp2
              rw [HRD.out, if_neg (fun h => by have := h.2; omega)]
              refine bodyPost_ret (v := .tuple #[.agg #[.slice (some ⟨g3, 0, none⟩) 4 cap3, .int .i64 x.room, .int .i64 (x.fail - 1)], .int .i64 0]) (by simp [results, Try.results21, go_sem, hcr]) rfl ?_
              refine ⟨_, by first | (simp only [DiskS.set_room, DiskS.set_fail]; rfl) | rfl | (simp only [DiskS.set_room, DiskS.set_fail]; rfl) | (simp only [HYR.out, HYF.out]; rfl), (HU3.out.trans' (M := [w.heap.size + 1]) ((((Upd.refl _ _).setCell (by simp) _).setCell (by simp) _).setCell (by simp) _) (by simp)), ?_⟩
              exact own_mono (own_upd (L := [w.heap.size + 1]) HR3.out ((((Upd.refl _ _).setCell (by simp) _).setCell (by simp) _).setCell (by simp) _) (by simp [Value.ownBlock]; omega)) (by omega)
          · skip
            refine wp_region_later [] (by kernel_rfl) (by kernel_rfl) ?_
            have HRY : Hd (∀ y : Later [] W, Calls Try.prog 53 #[.agg #[.slice (some ⟨g3, 0, none⟩) 4 cap3, .int .i64 x.room, .int .i64 (x.fail - 1)]] y.world fun e w' => e = .returned (.int .i64 (Y.used : Int)) ∧ Upd [] y.world w') := hd (fun y => (used_ref { Y with room := x.room, fail := x.fail - 1 } (.slice (some ⟨g3, 0, none⟩) 4 cap3) y.world (w.heap.size + 2) (own_upd (L := []) HRW.out y.upd (fun _ _ => by simp)) HY.out))
            have HRX : Hd (∀ y : Later [] W, Calls Try.prog 53 #[.agg #[.slice (some ⟨g, 0, none⟩) 4 cap, .int .i64 x.room, .int .i64 (x.fail - 1)]] y.world fun e w' => e = .returned (.int .i64 (x.used : Int)) ∧ Upd [] y.world w') := hd (fun y => (used_ref ({ x with fail := x.fail - 1 } : DiskS) (.slice (some ⟨g, 0, none⟩) 4 cap) y.world B (own_upd (L := []) HXW.out y.upd (fun _ _ => by simp)) hs))
            repeat (go_big_quiet_step ((go_at_call 53; first | (with_reducible exact later_call (HRY.out _)) | (with_reducible exact later_call (HRX.out _)))))
            refine wpQuiet_nil ?_
            intro W2 hu2
            have hbr := HWr.out.upd hu2 (by simp)
            have hcr := hbr.cell
            have hzr := hbr.frozen
            have hcd := (HW.out.upd hu2 (by simp)).cell
            have hcx := (HWx.out.upd hu2 (by simp)).cell
            have HR3 := hd (own_upd (L := []) HRW.out hu2 (fun _ _ => by simp))
            have HX3 := hd (own_upd (L := []) HXW.out hu2 (fun _ _ => by simp))
            have HU3 := hd (HUW.out.trans hu2)
            have hlt2 := hbr.lt
            have hltx := (HWx.out.upd hu2 (by simp)).lt
            have hltd := (HW.out.upd hu2 (by simp)).lt
            clear hu2 hbr HRY HRX
            go_wp2
            rw [HRD.out, if_neg (fun h => by have := h.1; omega)]
            refine bodyPost_ret (v := .tuple #[.agg #[.slice (some ⟨g3, 0, none⟩) 4 cap3, .int .i64 x.room, .int .i64 (x.fail - 1)], .int .i64 0]) (by simp [results, Try.results21, go_sem, hcr]) rfl ?_
            refine ⟨_, by first | (simp only [DiskS.set_room, DiskS.set_fail]; rfl) | rfl | (simp only [DiskS.set_room, DiskS.set_fail]; rfl) | (simp only [HYR.out, HYF.out]; rfl), (HU3.out.trans' (M := [w.heap.size + 1]) ((((Upd.refl _ _).setCell (by simp) _).setCell (by simp) _).setCell (by simp) _) (by simp)), ?_⟩
            exact own_mono (own_upd (L := [w.heap.size + 1]) HR3.out ((((Upd.refl _ _).setCell (by simp) _).setCell (by simp) _).setCell (by simp) _) (by simp [Value.ownBlock]; omega)) (by omega)
        · have HRF := hd (show refFile kind (x.get i) s = ⟨(x.get i).now, (x.get i).now, false⟩ by simp [refFile, hk0, hk1])
          have HRD := hd (show refDo x kind i s = ((({ x with fail := x.fail - 1 } : DiskS).set i ⟨(x.get i).now, (x.get i).now, false⟩), 0) by
            simp only [refDo, HI.out, HF0.out, HFF.out, if_false, Int.toNat_natCast, hk0, hk1, or_self]
            first | rfl | (rw [show ({ x with fail := x.fail - 1 } : DiskS).get i = x.get i from rfl, HRF.out]; done) | (rw [show ({ x with fail := x.fail - 1 } : DiskS).get i = x.get i from rfl, HRF.out]; rfl))
          have hFS : (⟨(x.get i).now, (x.get i).now, false⟩ : FileS).small := ⟨by first | assumption | (assumption), by assumption⟩
          have hk0' : (kind == 0) = false := by simp [hk0]
          have hk1' : (kind == 1) = false := by simp [hk1]
          go_enter Try.func21, Try.ntmps21
          go_wp2_with fail
          refine (with_any ({ x with fail := x.fail - 1 } : DiskS) (.slice (some ⟨g, 0, none⟩) 4 cap) i ⟨(x.get i).now, (x.get i).now, false⟩ _ B (own_upd (L := []) HX.out (by repeat (first | with_reducible exact HX.out | with_reducible exact Upd.refl _ _ | with_reducible refine Upd.alloc ?_ _ | with_reducible refine Upd.drew ?_ | with_reducible refine Upd.setCell ?_ (by first | (simp; done) | (simp; omega)) _)) (fun _ _ => by simp)) hi4 (by simp; omega)).mono ?_
          rintro e w3 ⟨l3, rfl, hu3, hr3⟩
          obtain ⟨g3, cap3, rfl, hg3, hgl3, _, _, _⟩ := own_cases hr3 (by omega)
          have hbd := Blk.upd (((Blk.new w _ _).alloc _).alloc _) hu3 (by simp)
          have hbr := Blk.upd ((Blk.new' (w.alloc _) _ _ (k := w.heap.size + 1) (by simp)).alloc _) hu3 (by simp)
          have hU3 : Upd [] w w3 := ((((Upd.refl [] w).alloc _).alloc _).alloc _).trans hu3
          simp only [World.size_alloc] at hg3
          have hcr := hbr.cell
          have hzr := hbr.frozen
          have HR3 := hd (own_mono hr3 (B' := w.heap.size + 2) (by simp only [World.size_alloc]; omega))
          have HU3 := hd hU3
          have hl3 := hbr.lt
          clear hr3 hu3 hU3 hbd hbr
          go_wp2
          rw [HRD.out]
          refine bodyPost_ret (v := .tuple #[.agg #[.slice (some ⟨g3, 0, none⟩) 4 cap3, .int .i64 x.room, .int .i64 (x.fail - 1)], .int .i64 0]) (by simp [results, Try.results21, go_sem, hcr]) rfl ?_
          refine ⟨_, by first | (simp only [DiskS.set_room, DiskS.set_fail]; rfl) | rfl | (simp only [DiskS.set_room, DiskS.set_fail]; rfl) | (simp only [HYR.out, HYF.out]; rfl), (HU3.out.trans' (M := [w.heap.size + 1]) ((((Upd.refl _ _).setCell (by simp) _).setCell (by simp) _).setCell (by simp) _) (by simp)), ?_⟩
          exact own_mono (own_upd (L := [w.heap.size + 1]) HR3.out ((((Upd.refl _ _).setCell (by simp) _).setCell (by simp) _).setCell (by simp) _) (by simp [Value.ownBlock]; omega)) (by omega)
      · have HFF := hd (show refFail x = { x with fail := x.fail } by simp [refFail, hfp])
        by_cases hk0 : kind = 0
        · have HRF := hd (show refFile 0 (x.get i) s = ⟨(x.get i).now ++ s, (x.get i).sure, (x.get i).put⟩ by simp [refFile])
          have HRD := hd (show refDo x 0 i s = if x.room < (({ x with fail := x.fail } : DiskS).set i ⟨(x.get i).now ++ s, (x.get i).sure, (x.get i).put⟩).used ∧ x.used < (({ x with fail := x.fail } : DiskS).set i ⟨(x.get i).now ++ s, (x.get i).sure, (x.get i).put⟩).used then (({ x with fail := x.fail } : DiskS), 17) else ((({ x with fail := x.fail } : DiskS).set i ⟨(x.get i).now ++ s, (x.get i).sure, (x.get i).put⟩), 0) by
            simp only [refDo, HI.out, HF0.out, HFF.out, if_false, Int.toNat_natCast, true_or, if_true]
            first | rfl | (rw [show ({ x with fail := x.fail } : DiskS).get i = x.get i from rfl, HRF.out]; done) | (rw [show ({ x with fail := x.fail } : DiskS).get i = x.get i from rfl, HRF.out]; rfl))
          have hFS : (⟨(x.get i).now ++ s, (x.get i).sure, (x.get i).put⟩ : FileS).small := ⟨by first | assumption | (simpa using hsy), by assumption⟩
          subst hk0
          go_enter Try.func21, Try.ntmps21
          go_wp2_with fail
          refine (with_any ({ x with fail := x.fail } : DiskS) (.slice (some ⟨g, 0, none⟩) 4 cap) i ⟨(x.get i).now ++ s, (x.get i).sure, (x.get i).put⟩ _ B (own_upd (L := []) HX.out (by repeat (first | with_reducible exact HX.out | with_reducible exact Upd.refl _ _ | with_reducible refine Upd.alloc ?_ _ | with_reducible refine Upd.drew ?_ | with_reducible refine Upd.setCell ?_ (by first | (simp; done) | (simp; omega)) _)) (fun _ _ => by simp)) hi4 (by simp; omega)).mono ?_
          rintro e w3 ⟨l3, rfl, hu3, hr3⟩
          obtain ⟨g3, cap3, rfl, hg3, hgl3, _, _, _⟩ := own_cases hr3 (by omega)
          have hbd := Blk.upd (((Blk.new w _ _).alloc _).alloc _) hu3 (by simp)
          have hbr := Blk.upd ((Blk.new' (w.alloc _) _ _ (k := w.heap.size + 1) (by simp)).alloc _) hu3 (by simp)
          have hU3 : Upd [] w w3 := ((((Upd.refl [] w).alloc _).alloc _).alloc _).trans hu3
          simp only [World.size_alloc] at hg3
          have HY := hd (DiskS.set_small (d := ({ x with fail := x.fail } : DiskS)) (f := ⟨(x.get i).now ++ s, (x.get i).sure, (x.get i).put⟩) hs hFS i)
          have hbY := HY.out.used
          have hbX := hs.used
          have HYR := hd (show (({ x with fail := x.fail } : DiskS).set i ⟨(x.get i).now ++ s, (x.get i).sure, (x.get i).put⟩).room = x.room from DiskS.set_room _ _ _)
          have HYF := hd (show (({ x with fail := x.fail } : DiskS).set i ⟨(x.get i).now ++ s, (x.get i).sure, (x.get i).put⟩).fail = x.fail from DiskS.set_fail _ _ _)
          generalize hY : (({ x with fail := x.fail } : DiskS).set i ⟨(x.get i).now ++ s, (x.get i).sure, (x.get i).put⟩) = Y at *
          have HYe := hd hY
          clear hY
          have hW := hbd.alloc (.cells #[.slice (some ⟨g3, 0, none⟩) 4 cap3, .int .i64 x.room, .int .i64 (x.fail)] 28)
          have hWr := hbr.alloc (.cells #[.slice (some ⟨g3, 0, none⟩) 4 cap3, .int .i64 x.room, .int .i64 (x.fail)] 28)
          have hWx := Blk.new w3 #[.slice (some ⟨g3, 0, none⟩) 4 cap3, .int .i64 x.room, .int .i64 (x.fail)] 28
          have hUW := hU3.alloc (.cells #[.slice (some ⟨g3, 0, none⟩) 4 cap3, .int .i64 x.room, .int .i64 (x.fail)] 28)
          have hrW := own_upd (L := []) (own_mono hr3 (B' := w.heap.size + 2) (by simp only [World.size_alloc]; omega)) ((Upd.refl [] w3).alloc (.cells #[.slice (some ⟨g3, 0, none⟩) 4 cap3, .int .i64 x.room, .int .i64 (x.fail)] 28)) (fun _ _ => by simp)
          have hlr := hbr.lt
          clear hr3 hu3 hbd hbr hU3
          go_wp2_with fail
          generalize w3.alloc (.cells #[.slice (some ⟨g3, 0, none⟩) 4 cap3, .int .i64 x.room, .int .i64 (x.fail)] 28) = W at *
          have hcd : ∀ (y : Later [] W) o, y.world.cell? ⟨w.heap.size, o, none⟩ = #[Value.slice (some ⟨g, 0, none⟩) 4 cap, .int .i64 x.room, .int .i64 (x.fail)][o]? := fun y => (y.blk hW (by simp)).cell
          have hcx : ∀ (y : Later [] W) o, y.world.cell? ⟨w3.heap.size, o, none⟩ = #[Value.slice (some ⟨g3, 0, none⟩) 4 cap3, .int .i64 x.room, .int .i64 (x.fail)][o]? := fun y => (y.blk hWx (by simp)).cell
          have hxW := own_upd (L := []) HX.out hUW (fun _ _ => by simp)
          have HWr := hd hWr
          have HW := hd hW
          have HWx := hd hWx
          have HUW := hd hUW
          have HRW := hd hrW
          have HXW := hd hxW
          clear hWr hW hWx hUW hrW hxW
          by_cases hro : x.room < (Y.used : Int)
          · by_cases hus : x.used < Y.used
            · skip
              refine wp_region_later [] (by kernel_rfl) (by kernel_rfl) ?_
              have HRY : Hd (∀ y : Later [] W, Calls Try.prog 53 #[.agg #[.slice (some ⟨g3, 0, none⟩) 4 cap3, .int .i64 x.room, .int .i64 (x.fail)]] y.world fun e w' => e = .returned (.int .i64 (Y.used : Int)) ∧ Upd [] y.world w') := hd (fun y => (used_ref { Y with room := x.room, fail := x.fail } (.slice (some ⟨g3, 0, none⟩) 4 cap3) y.world (w.heap.size + 2) (own_upd (L := []) HRW.out y.upd (fun _ _ => by simp)) HY.out))
              have HRX : Hd (∀ y : Later [] W, Calls Try.prog 53 #[.agg #[.slice (some ⟨g, 0, none⟩) 4 cap, .int .i64 x.room, .int .i64 (x.fail)]] y.world fun e w' => e = .returned (.int .i64 (x.used : Int)) ∧ Upd [] y.world w') := hd (fun y => (used_ref ({ x with fail := x.fail } : DiskS) (.slice (some ⟨g, 0, none⟩) 4 cap) y.world B (own_upd (L := []) HXW.out y.upd (fun _ _ => by simp)) hs))
              repeat (go_big_quiet_step ((go_at_call 53; first | (with_reducible exact later_call (HRY.out _)) | (with_reducible exact later_call (HRX.out _)))))
              refine wpQuiet_nil ?_
              intro W2 hu2
              have hbr := HWr.out.upd hu2 (by simp)
              have hcr := hbr.cell
              have hzr := hbr.frozen
              have hcd := (HW.out.upd hu2 (by simp)).cell
              have hcx := (HWx.out.upd hu2 (by simp)).cell
              have HR3 := hd (own_upd (L := []) HRW.out hu2 (fun _ _ => by simp))
              have HX3 := hd (own_upd (L := []) HXW.out hu2 (fun _ _ => by simp))
              have HU3 := hd (HUW.out.trans hu2)
              have hlt2 := hbr.lt
              have hltx := (HWx.out.upd hu2 (by simp)).lt
              have hltd := (HW.out.upd hu2 (by simp)).lt
              clear hu2 hbr HRY HRX
              go_wp2
              rw [HRD.out, if_pos ⟨hro, hus⟩]
              refine bodyPost_ret (v := .tuple #[.agg #[.slice (some ⟨g, 0, none⟩) 4 cap, .int .i64 x.room, .int .i64 (x.fail)], .int .i64 17]) (by simp [results, Try.results21, go_sem, hcr]) rfl ?_
              refine ⟨_, by first | (simp only [DiskS.set_room, DiskS.set_fail]; rfl) | rfl | (simp only [DiskS.set_room, DiskS.set_fail]; rfl) | (simp only [HYR.out, HYF.out]; rfl), (HU3.out.trans' (M := [w.heap.size + 1]) ((((Upd.refl _ _).setCell (by simp) _).setCell (by simp) _).setCell (by simp) _) (by simp)), ?_⟩
              exact own_mono (own_upd (L := [w.heap.size + 1]) HX3.out ((((Upd.refl _ _).setCell (by simp) _).setCell (by simp) _).setCell (by simp) _) (by simp [Value.ownBlock]; omega)) (by omega)
            · skip
              refine wp_region_later [] (by kernel_rfl) (by kernel_rfl) ?_
              have HRY : Hd (∀ y : Later [] W, Calls Try.prog 53 #[.agg #[.slice (some ⟨g3, 0, none⟩) 4 cap3, .int .i64 x.room, .int .i64 (x.fail)]] y.world fun e w' => e = .returned (.int .i64 (Y.used : Int)) ∧ Upd [] y.world w') := hd (fun y => (used_ref { Y with room := x.room, fail := x.fail } (.slice (some ⟨g3, 0, none⟩) 4 cap3) y.world (w.heap.size + 2) (own_upd (L := []) HRW.out y.upd (fun _ _ => by simp)) HY.out))
              have HRX : Hd (∀ y : Later [] W, Calls Try.prog 53 #[.agg #[.slice (some ⟨g, 0, none⟩) 4 cap, .int .i64 x.room, .int .i64 (x.fail)]] y.world fun e w' => e = .returned (.int .i64 (x.used : Int)) ∧ Upd [] y.world w') := hd (fun y => (used_ref ({ x with fail := x.fail } : DiskS) (.slice (some ⟨g, 0, none⟩) 4 cap) y.world B (own_upd (L := []) HXW.out y.upd (fun _ _ => by simp)) hs))
              repeat (go_big_quiet_step ((go_at_call 53; first | (with_reducible exact later_call (HRY.out _)) | (with_reducible exact later_call (HRX.out _)))))
              refine wpQuiet_nil ?_
              intro W2 hu2
              have hbr := HWr.out.upd hu2 (by simp)
              have hcr := hbr.cell
              have hzr := hbr.frozen
              have hcd := (HW.out.upd hu2 (by simp)).cell
              have hcx := (HWx.out.upd hu2 (by simp)).cell
              have HR3 := hd (own_upd (L := []) HRW.out hu2 (fun _ _ => by simp))
              have HX3 := hd (own_upd (L := []) HXW.out hu2 (fun _ _ => by simp))
              have HU3 := hd (HUW.out.trans hu2)
              have hlt2 := hbr.lt
              have hltx := (HWx.out.upd hu2 (by simp)).lt
              have hltd := (HW.out.upd hu2 (by simp)).lt
              clear hu2 hbr HRY HRX
              go_wp2
              rw [HRD.out, if_neg (fun h => by have := h.2; omega)]
              refine bodyPost_ret (v := .tuple #[.agg #[.slice (some ⟨g3, 0, none⟩) 4 cap3, .int .i64 x.room, .int .i64 (x.fail)], .int .i64 0]) (by simp [results, Try.results21, go_sem, hcr]) rfl ?_
              refine ⟨_, by first | (simp only [DiskS.set_room, DiskS.set_fail]; rfl) | rfl | (simp only [DiskS.set_room, DiskS.set_fail]; rfl) | (simp only [HYR.out, HYF.out]; rfl), (HU3.out.trans' (M := [w.heap.size + 1]) ((((Upd.refl _ _).setCell (by simp) _).setCell (by simp) _).setCell (by simp) _) (by simp)), ?_⟩
              exact own_mono (own_upd (L := [w.heap.size + 1]) HR3.out ((((Upd.refl _ _).setCell (by simp) _).setCell (by simp) _).setCell (by simp) _) (by simp [Value.ownBlock]; omega)) (by omega)
          · skip
            refine wp_region_later [] (by kernel_rfl) (by kernel_rfl) ?_
            have HRY : Hd (∀ y : Later [] W, Calls Try.prog 53 #[.agg #[.slice (some ⟨g3, 0, none⟩) 4 cap3, .int .i64 x.room, .int .i64 (x.fail)]] y.world fun e w' => e = .returned (.int .i64 (Y.used : Int)) ∧ Upd [] y.world w') := hd (fun y => (used_ref { Y with room := x.room, fail := x.fail } (.slice (some ⟨g3, 0, none⟩) 4 cap3) y.world (w.heap.size + 2) (own_upd (L := []) HRW.out y.upd (fun _ _ => by simp)) HY.out))
            have HRX : Hd (∀ y : Later [] W, Calls Try.prog 53 #[.agg #[.slice (some ⟨g, 0, none⟩) 4 cap, .int .i64 x.room, .int .i64 (x.fail)]] y.world fun e w' => e = .returned (.int .i64 (x.used : Int)) ∧ Upd [] y.world w') := hd (fun y => (used_ref ({ x with fail := x.fail } : DiskS) (.slice (some ⟨g, 0, none⟩) 4 cap) y.world B (own_upd (L := []) HXW.out y.upd (fun _ _ => by simp)) hs))
            repeat (go_big_quiet_step ((go_at_call 53; first | (with_reducible exact later_call (HRY.out _)) | (with_reducible exact later_call (HRX.out _)))))
            refine wpQuiet_nil ?_
            intro W2 hu2
            have hbr := HWr.out.upd hu2 (by simp)
            have hcr := hbr.cell
            have hzr := hbr.frozen
            have hcd := (HW.out.upd hu2 (by simp)).cell
            have hcx := (HWx.out.upd hu2 (by simp)).cell
            have HR3 := hd (own_upd (L := []) HRW.out hu2 (fun _ _ => by simp))
            have HX3 := hd (own_upd (L := []) HXW.out hu2 (fun _ _ => by simp))
            have HU3 := hd (HUW.out.trans hu2)
            have hlt2 := hbr.lt
            have hltx := (HWx.out.upd hu2 (by simp)).lt
            have hltd := (HW.out.upd hu2 (by simp)).lt
            clear hu2 hbr HRY HRX
            go_wp2
            rw [HRD.out, if_neg (fun h => by have := h.1; omega)]
            refine bodyPost_ret (v := .tuple #[.agg #[.slice (some ⟨g3, 0, none⟩) 4 cap3, .int .i64 x.room, .int .i64 (x.fail)], .int .i64 0]) (by simp [results, Try.results21, go_sem, hcr]) rfl ?_
            refine ⟨_, by first | (simp only [DiskS.set_room, DiskS.set_fail]; rfl) | rfl | (simp only [DiskS.set_room, DiskS.set_fail]; rfl) | (simp only [HYR.out, HYF.out]; rfl), (HU3.out.trans' (M := [w.heap.size + 1]) ((((Upd.refl _ _).setCell (by simp) _).setCell (by simp) _).setCell (by simp) _) (by simp)), ?_⟩
            exact own_mono (own_upd (L := [w.heap.size + 1]) HR3.out ((((Upd.refl _ _).setCell (by simp) _).setCell (by simp) _).setCell (by simp) _) (by simp [Value.ownBlock]; omega)) (by omega)
        by_cases hk1 : kind = 1
        · have HRF := hd (show refFile 1 (x.get i) s = ⟨s, (x.get i).sure, true⟩ by simp [refFile])
          have HRD := hd (show refDo x 1 i s = if x.room < (({ x with fail := x.fail } : DiskS).set i ⟨s, (x.get i).sure, true⟩).used ∧ x.used < (({ x with fail := x.fail } : DiskS).set i ⟨s, (x.get i).sure, true⟩).used then (({ x with fail := x.fail } : DiskS), 17) else ((({ x with fail := x.fail } : DiskS).set i ⟨s, (x.get i).sure, true⟩), 0) by
            simp only [refDo, HI.out, HF0.out, HFF.out, if_false, Int.toNat_natCast, or_true, if_true]
            first | rfl | (rw [show ({ x with fail := x.fail } : DiskS).get i = x.get i from rfl, HRF.out]; done) | (rw [show ({ x with fail := x.fail } : DiskS).get i = x.get i from rfl, HRF.out]; rfl))
          have hFS : (⟨s, (x.get i).sure, true⟩ : FileS).small := ⟨by first | assumption | (show s.size ≤ _; omega), by assumption⟩
          subst hk1; clear hk0
          go_enter Try.func21, Try.ntmps21
          go_wp2_with fail
          refine (with_any ({ x with fail := x.fail } : DiskS) (.slice (some ⟨g, 0, none⟩) 4 cap) i ⟨s, (x.get i).sure, true⟩ _ B (own_upd (L := []) HX.out (by repeat (first | with_reducible exact HX.out | with_reducible exact Upd.refl _ _ | with_reducible refine Upd.alloc ?_ _ | with_reducible refine Upd.drew ?_ | with_reducible refine Upd.setCell ?_ (by first | (simp; done) | (simp; omega)) _)) (fun _ _ => by simp)) hi4 (by simp; omega)).mono ?_
          rintro e w3 ⟨l3, rfl, hu3, hr3⟩
          obtain ⟨g3, cap3, rfl, hg3, hgl3, _, _, _⟩ := own_cases hr3 (by omega)
          have hbd := Blk.upd (((Blk.new w _ _).alloc _).alloc _) hu3 (by simp)
          have hbr := Blk.upd ((Blk.new' (w.alloc _) _ _ (k := w.heap.size + 1) (by simp)).alloc _) hu3 (by simp)
          have hU3 : Upd [] w w3 := ((((Upd.refl [] w).alloc _).alloc _).alloc _).trans hu3
          simp only [World.size_alloc] at hg3
          have HY := hd (DiskS.set_small (d := ({ x with fail := x.fail } : DiskS)) (f := ⟨s, (x.get i).sure, true⟩) hs hFS i)
          have hbY := HY.out.used
          have hbX := hs.used
          have HYR := hd (show (({ x with fail := x.fail } : DiskS).set i ⟨s, (x.get i).sure, true⟩).room = x.room from DiskS.set_room _ _ _)
          have HYF := hd (show (({ x with fail := x.fail } : DiskS).set i ⟨s, (x.get i).sure, true⟩).fail = x.fail from DiskS.set_fail _ _ _)
          generalize hY : (({ x with fail := x.fail } : DiskS).set i ⟨s, (x.get i).sure, true⟩) = Y at *
          have HYe := hd hY
          clear hY
          have hW := hbd.alloc (.cells #[.slice (some ⟨g3, 0, none⟩) 4 cap3, .int .i64 x.room, .int .i64 (x.fail)] 28)
          have hWr := hbr.alloc (.cells #[.slice (some ⟨g3, 0, none⟩) 4 cap3, .int .i64 x.room, .int .i64 (x.fail)] 28)
          have hWx := Blk.new w3 #[.slice (some ⟨g3, 0, none⟩) 4 cap3, .int .i64 x.room, .int .i64 (x.fail)] 28
          have hUW := hU3.alloc (.cells #[.slice (some ⟨g3, 0, none⟩) 4 cap3, .int .i64 x.room, .int .i64 (x.fail)] 28)
          have hrW := own_upd (L := []) (own_mono hr3 (B' := w.heap.size + 2) (by simp only [World.size_alloc]; omega)) ((Upd.refl [] w3).alloc (.cells #[.slice (some ⟨g3, 0, none⟩) 4 cap3, .int .i64 x.room, .int .i64 (x.fail)] 28)) (fun _ _ => by simp)
          have hlr := hbr.lt
          clear hr3 hu3 hbd hbr hU3
          go_wp2_with fail
          generalize w3.alloc (.cells #[.slice (some ⟨g3, 0, none⟩) 4 cap3, .int .i64 x.room, .int .i64 (x.fail)] 28) = W at *
          have hcd : ∀ (y : Later [] W) o, y.world.cell? ⟨w.heap.size, o, none⟩ = #[Value.slice (some ⟨g, 0, none⟩) 4 cap, .int .i64 x.room, .int .i64 (x.fail)][o]? := fun y => (y.blk hW (by simp)).cell
          have hcx : ∀ (y : Later [] W) o, y.world.cell? ⟨w3.heap.size, o, none⟩ = #[Value.slice (some ⟨g3, 0, none⟩) 4 cap3, .int .i64 x.room, .int .i64 (x.fail)][o]? := fun y => (y.blk hWx (by simp)).cell
          have hxW := own_upd (L := []) HX.out hUW (fun _ _ => by simp)
          have HWr := hd hWr
          have HW := hd hW
          have HWx := hd hWx
          have HUW := hd hUW
          have HRW := hd hrW
          have HXW := hd hxW
          clear hWr hW hWx hUW hrW hxW
          by_cases hro : x.room < (Y.used : Int)
          · by_cases hus : x.used < Y.used
            · skip
              refine wp_region_later [] (by kernel_rfl) (by kernel_rfl) ?_
              have HRY : Hd (∀ y : Later [] W, Calls Try.prog 53 #[.agg #[.slice (some ⟨g3, 0, none⟩) 4 cap3, .int .i64 x.room, .int .i64 (x.fail)]] y.world fun e w' => e = .returned (.int .i64 (Y.used : Int)) ∧ Upd [] y.world w') := hd (fun y => (used_ref { Y with room := x.room, fail := x.fail } (.slice (some ⟨g3, 0, none⟩) 4 cap3) y.world (w.heap.size + 2) (own_upd (L := []) HRW.out y.upd (fun _ _ => by simp)) HY.out))
              have HRX : Hd (∀ y : Later [] W, Calls Try.prog 53 #[.agg #[.slice (some ⟨g, 0, none⟩) 4 cap, .int .i64 x.room, .int .i64 (x.fail)]] y.world fun e w' => e = .returned (.int .i64 (x.used : Int)) ∧ Upd [] y.world w') := hd (fun y => (used_ref ({ x with fail := x.fail } : DiskS) (.slice (some ⟨g, 0, none⟩) 4 cap) y.world B (own_upd (L := []) HXW.out y.upd (fun _ _ => by simp)) hs))
              repeat (go_big_quiet_step ((go_at_call 53; first | (with_reducible exact later_call (HRY.out _)) | (with_reducible exact later_call (HRX.out _)))))
              refine wpQuiet_nil ?_
              intro W2 hu2
              have hbr := HWr.out.upd hu2 (by simp)
              have hcr := hbr.cell
              have hzr := hbr.frozen
              have hcd := (HW.out.upd hu2 (by simp)).cell
              have hcx := (HWx.out.upd hu2 (by simp)).cell
              have HR3 := hd (own_upd (L := []) HRW.out hu2 (fun _ _ => by simp))
              have HX3 := hd (own_upd (L := []) HXW.out hu2 (fun _ _ => by simp))
              have HU3 := hd (HUW.out.trans hu2)
              have hlt2 := hbr.lt
              have hltx := (HWx.out.upd hu2 (by simp)).lt
              have hltd := (HW.out.upd hu2 (by simp)).lt
              clear hu2 hbr HRY HRX
              go_wp2
              rw [HRD.out, if_pos ⟨hro, hus⟩]
              refine bodyPost_ret (v := .tuple #[.agg #[.slice (some ⟨g, 0, none⟩) 4 cap, .int .i64 x.room, .int .i64 (x.fail)], .int .i64 17]) (by simp [results, Try.results21, go_sem, hcr]) rfl ?_
              refine ⟨_, by first | (simp only [DiskS.set_room, DiskS.set_fail]; rfl) | rfl | (simp only [DiskS.set_room, DiskS.set_fail]; rfl) | (simp only [HYR.out, HYF.out]; rfl), (HU3.out.trans' (M := [w.heap.size + 1]) ((((Upd.refl _ _).setCell (by simp) _).setCell (by simp) _).setCell (by simp) _) (by simp)), ?_⟩
              exact own_mono (own_upd (L := [w.heap.size + 1]) HX3.out ((((Upd.refl _ _).setCell (by simp) _).setCell (by simp) _).setCell (by simp) _) (by simp [Value.ownBlock]; omega)) (by omega)
            · skip
              refine wp_region_later [] (by kernel_rfl) (by kernel_rfl) ?_
              have HRY : Hd (∀ y : Later [] W, Calls Try.prog 53 #[.agg #[.slice (some ⟨g3, 0, none⟩) 4 cap3, .int .i64 x.room, .int .i64 (x.fail)]] y.world fun e w' => e = .returned (.int .i64 (Y.used : Int)) ∧ Upd [] y.world w') := hd (fun y => (used_ref { Y with room := x.room, fail := x.fail } (.slice (some ⟨g3, 0, none⟩) 4 cap3) y.world (w.heap.size + 2) (own_upd (L := []) HRW.out y.upd (fun _ _ => by simp)) HY.out))
              have HRX : Hd (∀ y : Later [] W, Calls Try.prog 53 #[.agg #[.slice (some ⟨g, 0, none⟩) 4 cap, .int .i64 x.room, .int .i64 (x.fail)]] y.world fun e w' => e = .returned (.int .i64 (x.used : Int)) ∧ Upd [] y.world w') := hd (fun y => (used_ref ({ x with fail := x.fail } : DiskS) (.slice (some ⟨g, 0, none⟩) 4 cap) y.world B (own_upd (L := []) HXW.out y.upd (fun _ _ => by simp)) hs))
              repeat (go_big_quiet_step ((go_at_call 53; first | (with_reducible exact later_call (HRY.out _)) | (with_reducible exact later_call (HRX.out _)))))
              refine wpQuiet_nil ?_
              intro W2 hu2
              have hbr := HWr.out.upd hu2 (by simp)
              have hcr := hbr.cell
              have hzr := hbr.frozen
              have hcd := (HW.out.upd hu2 (by simp)).cell
              have hcx := (HWx.out.upd hu2 (by simp)).cell
              have HR3 := hd (own_upd (L := []) HRW.out hu2 (fun _ _ => by simp))
              have HX3 := hd (own_upd (L := []) HXW.out hu2 (fun _ _ => by simp))
              have HU3 := hd (HUW.out.trans hu2)
              have hlt2 := hbr.lt
              have hltx := (HWx.out.upd hu2 (by simp)).lt
              have hltd := (HW.out.upd hu2 (by simp)).lt
              clear hu2 hbr HRY HRX
              go_wp2
              rw [HRD.out, if_neg (fun h => by have := h.2; omega)]
              refine bodyPost_ret (v := .tuple #[.agg #[.slice (some ⟨g3, 0, none⟩) 4 cap3, .int .i64 x.room, .int .i64 (x.fail)], .int .i64 0]) (by simp [results, Try.results21, go_sem, hcr]) rfl ?_
              refine ⟨_, by first | (simp only [DiskS.set_room, DiskS.set_fail]; rfl) | rfl | (simp only [DiskS.set_room, DiskS.set_fail]; rfl) | (simp only [HYR.out, HYF.out]; rfl), (HU3.out.trans' (M := [w.heap.size + 1]) ((((Upd.refl _ _).setCell (by simp) _).setCell (by simp) _).setCell (by simp) _) (by simp)), ?_⟩
              exact own_mono (own_upd (L := [w.heap.size + 1]) HR3.out ((((Upd.refl _ _).setCell (by simp) _).setCell (by simp) _).setCell (by simp) _) (by simp [Value.ownBlock]; omega)) (by omega)
          · skip
            refine wp_region_later [] (by kernel_rfl) (by kernel_rfl) ?_
            have HRY : Hd (∀ y : Later [] W, Calls Try.prog 53 #[.agg #[.slice (some ⟨g3, 0, none⟩) 4 cap3, .int .i64 x.room, .int .i64 (x.fail)]] y.world fun e w' => e = .returned (.int .i64 (Y.used : Int)) ∧ Upd [] y.world w') := hd (fun y => (used_ref { Y with room := x.room, fail := x.fail } (.slice (some ⟨g3, 0, none⟩) 4 cap3) y.world (w.heap.size + 2) (own_upd (L := []) HRW.out y.upd (fun _ _ => by simp)) HY.out))
            have HRX : Hd (∀ y : Later [] W, Calls Try.prog 53 #[.agg #[.slice (some ⟨g, 0, none⟩) 4 cap, .int .i64 x.room, .int .i64 (x.fail)]] y.world fun e w' => e = .returned (.int .i64 (x.used : Int)) ∧ Upd [] y.world w') := hd (fun y => (used_ref ({ x with fail := x.fail } : DiskS) (.slice (some ⟨g, 0, none⟩) 4 cap) y.world B (own_upd (L := []) HXW.out y.upd (fun _ _ => by simp)) hs))
            repeat (go_big_quiet_step ((go_at_call 53; first | (with_reducible exact later_call (HRY.out _)) | (with_reducible exact later_call (HRX.out _)))))
            refine wpQuiet_nil ?_
            intro W2 hu2
            have hbr := HWr.out.upd hu2 (by simp)
            have hcr := hbr.cell
            have hzr := hbr.frozen
            have hcd := (HW.out.upd hu2 (by simp)).cell
            have hcx := (HWx.out.upd hu2 (by simp)).cell
            have HR3 := hd (own_upd (L := []) HRW.out hu2 (fun _ _ => by simp))
            have HX3 := hd (own_upd (L := []) HXW.out hu2 (fun _ _ => by simp))
            have HU3 := hd (HUW.out.trans hu2)
            have hlt2 := hbr.lt
            have hltx := (HWx.out.upd hu2 (by simp)).lt
            have hltd := (HW.out.upd hu2 (by simp)).lt
            clear hu2 hbr HRY HRX
            go_wp2
            rw [HRD.out, if_neg (fun h => by have := h.1; omega)]
            refine bodyPost_ret (v := .tuple #[.agg #[.slice (some ⟨g3, 0, none⟩) 4 cap3, .int .i64 x.room, .int .i64 (x.fail)], .int .i64 0]) (by simp [results, Try.results21, go_sem, hcr]) rfl ?_
            refine ⟨_, by first | (simp only [DiskS.set_room, DiskS.set_fail]; rfl) | rfl | (simp only [DiskS.set_room, DiskS.set_fail]; rfl) | (simp only [HYR.out, HYF.out]; rfl), (HU3.out.trans' (M := [w.heap.size + 1]) ((((Upd.refl _ _).setCell (by simp) _).setCell (by simp) _).setCell (by simp) _) (by simp)), ?_⟩
            exact own_mono (own_upd (L := [w.heap.size + 1]) HR3.out ((((Upd.refl _ _).setCell (by simp) _).setCell (by simp) _).setCell (by simp) _) (by simp [Value.ownBlock]; omega)) (by omega)
        · have HRF := hd (show refFile kind (x.get i) s = ⟨(x.get i).now, (x.get i).now, false⟩ by simp [refFile, hk0, hk1])
          have HRD := hd (show refDo x kind i s = ((({ x with fail := x.fail } : DiskS).set i ⟨(x.get i).now, (x.get i).now, false⟩), 0) by
            simp only [refDo, HI.out, HF0.out, HFF.out, if_false, Int.toNat_natCast, hk0, hk1, or_self]
            first | rfl | (rw [show ({ x with fail := x.fail } : DiskS).get i = x.get i from rfl, HRF.out]; done) | (rw [show ({ x with fail := x.fail } : DiskS).get i = x.get i from rfl, HRF.out]; rfl))
          have hFS : (⟨(x.get i).now, (x.get i).now, false⟩ : FileS).small := ⟨by first | assumption | (assumption), by assumption⟩
          have hk0' : (kind == 0) = false := by simp [hk0]
          have hk1' : (kind == 1) = false := by simp [hk1]
          go_enter Try.func21, Try.ntmps21
          go_wp2_with fail
          refine (with_any ({ x with fail := x.fail } : DiskS) (.slice (some ⟨g, 0, none⟩) 4 cap) i ⟨(x.get i).now, (x.get i).now, false⟩ _ B (own_upd (L := []) HX.out (by repeat (first | with_reducible exact HX.out | with_reducible exact Upd.refl _ _ | with_reducible refine Upd.alloc ?_ _ | with_reducible refine Upd.drew ?_ | with_reducible refine Upd.setCell ?_ (by first | (simp; done) | (simp; omega)) _)) (fun _ _ => by simp)) hi4 (by simp; omega)).mono ?_
          rintro e w3 ⟨l3, rfl, hu3, hr3⟩
          obtain ⟨g3, cap3, rfl, hg3, hgl3, _, _, _⟩ := own_cases hr3 (by omega)
          have hbd := Blk.upd (((Blk.new w _ _).alloc _).alloc _) hu3 (by simp)
          have hbr := Blk.upd ((Blk.new' (w.alloc _) _ _ (k := w.heap.size + 1) (by simp)).alloc _) hu3 (by simp)
          have hU3 : Upd [] w w3 := ((((Upd.refl [] w).alloc _).alloc _).alloc _).trans hu3
          simp only [World.size_alloc] at hg3
          have hcr := hbr.cell
          have hzr := hbr.frozen
          have HR3 := hd (own_mono hr3 (B' := w.heap.size + 2) (by simp only [World.size_alloc]; omega))
          have HU3 := hd hU3
          have hl3 := hbr.lt
          clear hr3 hu3 hU3 hbd hbr
          go_wp2
          rw [HRD.out]
          refine bodyPost_ret (v := .tuple #[.agg #[.slice (some ⟨g3, 0, none⟩) 4 cap3, .int .i64 x.room, .int .i64 (x.fail)], .int .i64 0]) (by simp [results, Try.results21, go_sem, hcr]) rfl ?_
          refine ⟨_, by first | (simp only [DiskS.set_room, DiskS.set_fail]; rfl) | rfl | (simp only [DiskS.set_room, DiskS.set_fail]; rfl) | (simp only [HYR.out, HYF.out]; rfl), (HU3.out.trans' (M := [w.heap.size + 1]) ((((Upd.refl _ _).setCell (by simp) _).setCell (by simp) _).setCell (by simp) _) (by simp)), ?_⟩
          exact own_mono (own_upd (L := [w.heap.size + 1]) HR3.out ((((Upd.refl _ _).setCell (by simp) _).setCell (by simp) _).setCell (by simp) _) (by simp [Value.ownBlock]; omega)) (by omega)
end Go.Proofs.Ytjaoiaknglnomaa
