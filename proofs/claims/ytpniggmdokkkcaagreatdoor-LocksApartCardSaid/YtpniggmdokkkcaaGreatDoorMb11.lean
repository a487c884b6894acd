/-
  locks: Acquire, walked. Conditions: the book keeps what a book keeps; a good path; the library's variables hold what they are laid to hold.
-/
import Derived.Test.YtpniggmdokkkcaaGreatDoorMb10
import Derived.Deep.AppendLies
import Derived.Deep.RegionLaw
import Derived.Deep.DrawnRows
set_option linter.unusedVariables false
set_option linter.unusedSimpArgs false
set_option maxRecDepth 100000
namespace Go.Proofs.YtpniggmdokkkcaaGreatDoor
open Go.RowKit

/-- A request: the book, the lock, its place, the error's number. -/
def acqP (ins : List LkS → LkS → List LkS) (d : BkS) (x : LkS) (wait : Bool) : BkS × LkS × Int × Int :=
  if 0 ≤ (findB d ⟨x.ses, x.path, false, 0⟩).2 then
    if (findB d ⟨x.ses, x.path, false, 0⟩).1.excl ≠ x.excl then (d, zeroK, 0, 16) else (d, (findB d ⟨x.ses, x.path, false, 0⟩).1, (findB d ⟨x.ses, x.path, false, 0⟩).2, 0)
  else if 8 ≤ countK x.ses (d.held ++ d.waits) then (d, zeroK, 0, 17)
  else if (!(d.held.any (conflB { x with tok := 0 })) && !(d.waits.any (conflB { x with tok := 0 }))) = true then
    if d.last = 18446744073709551615 then (d, zeroK, 0, 19) else ({ d with held := ins d.held (tokd d x), last := d.last + 1 }, tokd d x, 0, 0)
  else if wait = false then (d, zeroK, 0, 16)
  else if 8 ≤ d.waits.length then (d, zeroK, 0, 17)
  else ({ d with waits := d.waits ++ [{ x with tok := 0 }] }, { x with tok := 0 }, (d.waits.length : Int) + 1, 0)

theorem same_foot {B k : Nat} {vh vw : Value} {d : BkS} {w w' : World} (h : BookAt B w k vh vw d) (hu : Upd [] w w') :
    BookAt B w' k vh vw d ∧ Upd (foot k vh vw) w w' ∧ (∀ g ∈ foot k vh vw, g ∈ foot k vh vw ∨ w.heap.size ≤ g) := ⟨h.later hu, hu.mono (by simp), fun g hg => .inl hg⟩

set_option maxHeartbeats 8000000 in
theorem acquire_any {B k : Nat} {vh vw : Value} {d : BkS} (x : LkS) (wait : Bool) (w : World) (h : BookAt B w k vh vw d) (hf : WfB d) (hx : Six x.path) (hD : Door w) (hE : 1 ≠ k) (hM : 0 ≠ k) (hB : B ≤ w.heap.size) :
    Calls Tryz.prog 18 #[.pointer (some ⟨k, 0, none⟩), x.val, .bool wait] w fun e w' =>
      ∃ vh' vw', e = .returned (.tuple #[(acqP insK d x wait).2.1.val, .int .i64 (acqP insK d x wait).2.2.1, .int .i64 (acqP insK d x wait).2.2.2]) ∧ BookAt B w' k vh' vw' (acqP insK d x wait).1 ∧ Upd (foot k vh vw) w w' ∧ (∀ g ∈ foot k vh' vw', g ∈ foot k vh vw ∨ w.heap.size ≤ g) := by
  have e0 := two_lk w x.cells.toArray #[.int .i64 0, .string ⟨#[]⟩, .bool false, .int .u64 0] 42
  have hxc : x.cells.toArray = #[.int .i64 x.ses, .string (txt (textL x.path)), .bool x.excl, .int .u64 x.tok] := rfl
  rw [hxc] at e0
  have HXV := hd (show x.val = .agg #[.int .i64 x.ses, .string (txt (textL x.path)), .bool x.excl, .int .u64 x.tok] from rfl)
  rw [HXV.out]
  have hfew := hf.few
  have HFD := hd (fun W (hu : Upd [] w W) => find_any x.ses x.path W (h.later hu) (by omega) (by omega))
  have HCT := hd (fun W (hu : Upd [] w W) => count_any x.ses W (h.later hu) (by omega) (by omega))
  have HMY := hd (fun W (hu : Upd [] w W) => may_any { x with tok := 0 } d.waits vw W (h.later hu) (row_lks (h.later hu).waits))
  have HGR := hd (fun (hlt : d.last < 18446744073709551615) W (hu : Upd [] w W) => grant_any { x with tok := 0 } W (h.later hu) (hD.later hu) hE hM hf.six1 hx (mono_of hf.sorted _) (by omega) hf.low hlt (by have := hu.size; omega))
  have HMV := hd (show ({ x with tok := 0 } : LkS).val = .agg #[.int .i64 x.ses, .string (txt (textL x.path)), .bool x.excl, .int .u64 0] from rfl)
  rw [HMV.out] at HMY HGR
  have HSF := hd (fun W (hu : Upd [] w W) => same_foot h hu)
  have HH := hd h
  have hwl := own_ge h.waits
  have hhl := own_ge h.held
  have hne := h.ne
  have hap := h.apart
  have hlow := hf.low
  have hhigh := hf.high
  have HR := hd (show acqP insK d x wait = if 0 ≤ (findB d ⟨x.ses, x.path, false, 0⟩).2 then
    if (findB d ⟨x.ses, x.path, false, 0⟩).1.excl ≠ x.excl then (d, zeroK, 0, 16) else (d, (findB d ⟨x.ses, x.path, false, 0⟩).1, (findB d ⟨x.ses, x.path, false, 0⟩).2, 0)
  else if 8 ≤ countK x.ses (d.held ++ d.waits) then (d, zeroK, 0, 17)
  else if (!(d.held.any (conflB { x with tok := 0 })) && !(d.waits.any (conflB { x with tok := 0 }))) = true then
    if d.last = 18446744073709551615 then (d, zeroK, 0, 19) else ({ d with held := insK d.held (tokd d x), last := d.last + 1 }, tokd d x, 0, 0)
  else if wait = false then (d, zeroK, 0, 16)
  else if 8 ≤ d.waits.length then (d, zeroK, 0, 17)
  else ({ d with waits := d.waits ++ [{ x with tok := 0 }] }, { x with tok := 0 }, (d.waits.length : Int) + 1, 0) from rfl)
  generalize acqP insK d x wait = R at *
  obtain ⟨a2, n2, rfl, hn2, hm2, -⟩ := own_open h.waits
  have hb := h.blk
  simp only [BkS.cells] at hb
  generalize findB d ⟨x.ses, x.path, false, 0⟩ = F at *
  generalize countK x.ses (d.held ++ d.waits) = cn at *
  generalize (!(d.held.any (conflB { x with tok := 0 })) && !(d.waits.any (conflB { x with tok := 0 }))) = q at *
  obtain ⟨fl, fi⟩ := F
  simp only at HFD HR
  have HFV := hd (show fl.val = .agg #[.int .i64 fl.ses, .string (txt (textL fl.path)), .bool fl.excl, .int .u64 fl.tok] from rfl)
  rw [HFV.out] at HFD
  have HHL := hd hhl
  have HWL := hd hwl
  have HNE := hd hne
  have HAP := hd hap
  clear h hf hx hD hxc hwl hhl hne hap
  go_enter Tryz.func18, Tryz.ntmps18
  go_upto_region 1 with fail
  obtain ⟨W, kx, kr, hkx, hkr, hW, hu, hbx, hbr⟩ := e0
  rw [hW, hkx, hkr]
  have q6 : ¬ (kr = kx) := by omega
  have hcx := hbx.cell
  have hzx := hbx.frozen
  have HKK := hd (show w.heap.size ≤ kx ∧ w.heap.size ≤ kr ∧ k < w.heap.size from ⟨by omega, by omega, hb.lt⟩)
  have e3 : ∃ W2, W.setCell ⟨kx, 3, none⟩ (.int .u64 0) = W2 ∧ Upd [] w W2 ∧ Blk W2 kx #[.int .i64 x.ses, .string (txt (textL x.path)), .bool x.excl, .int .u64 0] 42 ∧ Blk W2 kr #[.int .i64 0, .string ⟨#[]⟩, .bool false, .int .u64 0] 42 := by
    refine ⟨_, rfl, ?_, hbx.set 3 _, hbr.set_other q6 _⟩
    exact hu.setCell (p := ⟨kx, 3, none⟩) (.inr (by simp only; omega)) _
  clear hW hkx hkr hbr
  go_upto_region 2 with fail
  obtain ⟨W2, hW2, hu2, hbx2, hbr2⟩ := e3
  rw [hW2]
  have HU2 := hd hu2
  have HBX := hd hbx2
  have HBR := hd hbr2
  have hcx2 := hbx2.cell
  have hlx2 := hbx2.lt
  clear hW2 hu2 hbx2 hbr2 hcx hzx hu hbx
  go_upto_region 2 with fail
  go_cut [9, 10, 12] (fun s9 s10 s12 wx => ∃ kf, s9 = .pointer (some ⟨kf, 0, none⟩) ∧ s10 = .int .i64 fi ∧ Upd [] w wx ∧ Upd [] W2 wx ∧ Blk wx kf #[.int .i64 fl.ses, .string (txt (textL fl.path)), .bool fl.excl, .int .u64 fl.tok] 42)
  case first =>
    go_wp2_with fail
    refine (HFD.out _ HU2.out).mono ?_
    rintro e w3 ⟨rfl, hu3⟩
    go_wp2_with fail
    go_meet
    case rel => exact ⟨_, rfl, rfl, (HU2.out.trans hu3).alloc _, hu3.alloc _, Blk.new _ _ _⟩
  case rest =>
    obtain ⟨kf, rfl, rfl, hu3, hu23, hbf⟩ := hcut
    have HU3 := hd hu3
    have HBX3 := hd (HBX.out.upd hu23 (by simp))
    have HBR3 := hd (HBR.out.upd hu23 (by simp))
    have hcf := hbf.cell
    have hlf := hbf.lt
    have hcx3 := HBX3.out.cell
    have hlx3 := HBX3.out.lt
    have hrz := HBR3.out.frozen
    have hrc := HBR3.out.cell
    have hrl := HBR3.out.lt
    clear hu3 hu23 hbf hcx2 hlx2
    by_cases hfi : 0 ≤ fi
    · have HR1 := hd (HR.out.trans (if_pos hfi))
      by_cases hex : fl.excl = x.excl
      · have hex' : (fl.excl == x.excl) = true := by simp [hex]
        have HR2 := hd (HR1.out.trans (if_neg (by simpa using hex)))
        clear hex
        go_wp2_with fail
        refine bodyPost_ret (res_lk3 _ 6 7 8 rfl _ _ kr fl (.int .i64 fi) (.int .i64 0) rfl rfl rfl (put4 HBR3.out fl)) rfl ?_
        rw [HR2.out]
        exact ⟨_, _, rfl, HSF.out _ (up4 HU3.out (.inr HKK.out.2.1) _ _ _ _)⟩
      · have hex' : (fl.excl == x.excl) = false := by simpa using hex
        have HR2 := hd (HR1.out.trans (if_pos hex))
        clear hex
        go_wp2_with fail
        refine bodyPost_ret (res_lk3 _ 6 7 8 rfl _ _ kr zeroK (.int .i64 0) (.int .i64 16) rfl rfl rfl (put4 HBR3.out zeroK)) rfl ?_
        rw [HR2.out]
        exact ⟨_, _, rfl, HSF.out _ (up4 HU3.out (.inr HKK.out.2.1) _ _ _ _)⟩
    · have HR1 := hd (HR.out.trans (if_neg hfi))
      have HCT3 := hd (HCT.out _ HU3.out)
      clear hcf hlf
      go_wp2_with fail
      refine HCT3.out.mono ?_
      rintro e w4 ⟨rfl, hu4⟩
      have HU4 := hd (HU3.out.trans hu4)
      have HBX4 := hd (HBX3.out.upd hu4 (by simp))
      have HBR4 := hd (HBR3.out.upd hu4 (by simp))
      have hcx4 := HBX4.out.cell
      have hlx4 := HBX4.out.lt
      have hrz4 := HBR4.out.frozen
      have hrc4 := HBR4.out.cell
      have hrl4 := HBR4.out.lt
      clear hu4 hcx3 hlx3 hrz hrc hrl
      by_cases hcn : 8 ≤ cn
      · have hcn' : (8 : Int) ≤ (cn : Int) := by omega
        have HR2 := hd (HR1.out.trans (if_pos hcn))
        go_wp2_with fail
        refine bodyPost_ret (res_lk3 _ 6 7 8 rfl _ _ kr zeroK (.int .i64 0) (.int .i64 17) rfl rfl rfl (put4 HBR4.out zeroK)) rfl ?_
        rw [HR2.out]
        exact ⟨_, _, rfl, HSF.out _ (up4 HU4.out (.inr HKK.out.2.1) _ _ _ _)⟩
      · have hcn' : ¬ (8 : Int) ≤ (cn : Int) := by omega
        have HR2 := hd (HR1.out.trans (if_neg hcn))
        have hk1 : ∀ (y : Later [] w4) o', y.world.cell? ⟨k, o', none⟩ = #[vh, .slice a2 d.waits.length n2, .int .u64 d.last][o']? := fun y => (hb.upd (HU4.out.trans y.upd) (by simp)).cell
        have hk2 : ∀ (y : Later [] w4) o', y.world.cell? ⟨kx, o', none⟩ = #[.int .i64 x.ses, .string (txt (textL x.path)), .bool x.excl, .int .u64 0][o']? := fun y => (HBX4.out.upd y.upd (by simp)).cell
        have HP := hd (fun y : Later [] w4 => HMY.out y.world (HU4.out.trans y.upd))
        go_upto_region 9 with fail
        refine wp_region_later [] (by kernel_rfl) (by kernel_rfl) ?_
        repeat (go_big_quiet_step (first
          | (go_at_call 33; refine later_call (HP.out _))))
        refine wpQuiet_nil ?_
        intro w5 hu5
        have HU5 := hd (HU4.out.trans hu5)
        have HBX5 := hd (HBX4.out.upd hu5 (by simp))
        have HBR5 := hd (HBR4.out.upd hu5 (by simp))
        have hcx5 := HBX5.out.cell
        have hlx5 := HBX5.out.lt
        have hrz5 := HBR5.out.frozen
        have hrc5 := HBR5.out.cell
        have hrl5 := HBR5.out.lt
        have hb5 := hb.upd HU5.out (by simp)
        have hkc5 := hb5.cell
        have hkz5 := hb5.frozen
        have hkl5 := hb5.lt
        have HB5 := hd hb5
        clear hu5 hk1 hk2 HP hcx4 hlx4 hrz4 hrc4 hrl4 hb5
        rcases q with _ | _
        · have HR3 := hd (HR2.out.trans (if_neg (by decide)))
          rcases wait with _ | _
          · have HR4 := hd (HR3.out.trans (if_pos rfl))
            go_wp2_with fail
            refine bodyPost_ret (res_lk3 _ 6 7 8 rfl _ _ kr zeroK (.int .i64 0) (.int .i64 16) rfl rfl rfl (put4 HBR5.out zeroK)) rfl ?_
            rw [HR4.out]
            first | exact ⟨_, _, rfl, HSF.out _ (up4 HU5.out (.inr HKK.out.2.1) _ _ _ _)⟩ | exact ⟨rfl, _, _, HSF.out _ (up4 HU5.out (.inr HKK.out.2.1) _ _ _ _)⟩
          · have HR4 := hd (HR3.out.trans (if_neg (by decide)))
            by_cases hwn : 8 ≤ d.waits.length
            · have hwn' : (8 : Int) ≤ (d.waits.length : Int) := by omega
              have HR5 := hd (HR4.out.trans (if_pos hwn))
              go_wp2_with fail
              refine bodyPost_ret (res_lk3 _ 6 7 8 rfl _ _ kr zeroK (.int .i64 0) (.int .i64 17) rfl rfl rfl (put4 HBR5.out zeroK)) rfl ?_
              rw [HR5.out]
              first | exact ⟨_, _, rfl, HSF.out _ (up4 HU5.out (.inr HKK.out.2.1) _ _ _ _)⟩ | exact ⟨rfl, _, _, HSF.out _ (up4 HU5.out (.inr HKK.out.2.1) _ _ _ _)⟩
            · have hwn' : ¬ (8 : Int) ≤ (d.waits.length : Int) := by omega
              have HR5 := hd (HR4.out.trans (if_neg hwn))
              obtain ⟨i0, hinf, hz0, hz1, hz2⟩ := info_parts Tryz.infoLk
              have HW5 := hd (HH.out.later HU5.out).waits
              have hB5 : B ≤ w5.heap.size := by have := HU5.out.size; omega
              have hkwn : k ∉ (Value.slice a2 d.waits.length n2).ownBlock.toList := fun hm => HNE.out.2 (by simpa using hm)
              have hxwn : kx ∉ (Value.slice a2 d.waits.length n2).ownBlock.toList := fun hm => by have := (HWL.out kx (by simpa using hm)).2; have := HKK.out.1; omega
              have hrwn : kr ∉ (Value.slice a2 d.waits.length n2).ownBlock.toList := fun hm => by have := (HWL.out kr (by simpa using hm)).2; have := HKK.out.2.1; omega
              have HKW := hd hkwn
              have HXW := hd hxwn
              have HRW := hd hrwn
              have hq3 : ¬ (kr = k) := by have := HKK.out; omega
              have hq4 : ¬ (k = kr) := by have := HKK.out; omega
              have hq5 : ¬ (kx = k) := by have := HKK.out; omega
              clear hkwn hxwn hrwn hwn
              go_upto_region 17 with fail
              go_cut [72] (fun s72 wx => ∃ vw', BookAt B wx k vh vw' { d with waits := d.waits ++ [{ x with tok := 0 }] } ∧ Blk wx kx #[.int .i64 x.ses, .string (txt (textL x.path)), .bool x.excl, .int .u64 0] 42 ∧ Blk wx kr #[.int .i64 0, .string ⟨#[]⟩, .bool false, .int .u64 0] 42 ∧ Upd (foot k vh (.slice a2 d.waits.length n2)) w wx ∧ (∀ g ∈ foot k vh vw', g ∈ foot k vh (.slice a2 d.waits.length n2) ∨ w.heap.size ≤ g) ∧ kr ∉ foot k vh vw')
              case first =>
                go_region_law ((refine step_append_lies _ (by rfl) _ _ _ (by rfl) B 42 i0 _ 4 40 Tryz.underlying37 hinf hz0 hz1 hz2 rfl (by omega) (.slice a2 d.waits.length n2) d.waits.length (lkCells d.waits) (by rfl) (own_upd (L := []) HW5.out (((Upd.refl _ _).drew).alloc _) (fun _ _ => by simp)) ⟨w5.heap.size, 0, none⟩ 1 1 [_, _, _, _] (by rfl) (by rfl) (World.news_of_block (heap_alloc_new w5 _)) (by intro u hu; simp at hu; rcases hu with rfl | rfl | rfl | rfl <;> rfl) (by omega) (by simp only [maxLen]; omega) (by omega) (by simp; omega) (w5.heap.size + 1) (by simp) ?_; intro g cap w1 hown hgrow hat hlt1; have hq := Blk.upd ((HB5.out.alloc _).drew) (Upd.of_grown hgrow) HKW.out; have hqc := hq.cell; have hqf := hq.frozen; have hql := hq.lt; have hqx := Blk.upd ((HBX5.out.alloc _).drew) (Upd.of_grown hgrow) HXW.out; have hqr := Blk.upd ((HBR5.out.alloc _).drew) (Upd.of_grown hgrow) HRW.out; have HQ := hd hq; have HQX := hd hqx; have HQR := hd hqr; have HOWN := hd hown; have HGW := hd hgrow; have HAT := hd hat; clear hq hqx hqr hown hgrow hat))
                all_goals
                  have hgw := Upd.of_grown HGW.out
                  have hgb : g ≠ k ∧ g ≠ kr ∧ (g ∈ foot k vh (.slice a2 d.waits.length n2) ∨ w.heap.size ≤ g) ∧ vh.ownBlock ≠ some g := by
                    have h5 := HU5.out.size
                    have h6 := HBR5.out.lt
                    rcases HAT.out with e | e
                    · refine ⟨fun e2 => HNE.out.2 (by rw [e, e2]), fun e2 => HRW.out (by rw [e, e2]; simp), .inl (mem_foot.2 (.inr (.inr e))), fun e2 => HAP.out g e2 e⟩
                    · have := HKK.out
                      exact ⟨by omega, by omega, .inr (by omega), fun e2 => by have := (HHL.out g e2).2; omega⟩
                  have hU1 : Upd (foot k vh (.slice a2 d.waits.length n2)) w w1 := (HU5.out.mono (by simp)).trans ((((((Upd.refl [] w5).alloc _).drew).mono (by simp))).trans (hgw.mono (fun i hi => .inl (mem_foot.2 (.inr (.inr (by simpa using hi)))))))
                  have happ : lkCells (d.waits ++ [{ x with tok := 0 }]) = lkCells d.waits ++ [.int .i64 x.ses, .string (txt (textL x.path)), .bool x.excl, .int .u64 0] := by simp [lkCells, LkS.cells]
                  have HPOST : Hd (∃ vw', BookAt B (w1.setCell ⟨k, 1, none⟩ (.slice (some ⟨g, 0, none⟩) (d.waits.length + 1) cap)) k vh vw' { d with waits := d.waits ++ [{ x with tok := 0 }] } ∧ Blk (w1.setCell ⟨k, 1, none⟩ (.slice (some ⟨g, 0, none⟩) (d.waits.length + 1) cap)) kx #[.int .i64 x.ses, .string (txt (textL x.path)), .bool x.excl, .int .u64 0] 42 ∧ Blk (w1.setCell ⟨k, 1, none⟩ (.slice (some ⟨g, 0, none⟩) (d.waits.length + 1) cap)) kr #[.int .i64 0, .string ⟨#[]⟩, .bool false, .int .u64 0] 42 ∧ Upd (foot k vh (.slice a2 d.waits.length n2)) w (w1.setCell ⟨k, 1, none⟩ (.slice (some ⟨g, 0, none⟩) (d.waits.length + 1) cap)) ∧ (∀ g ∈ foot k vh vw', g ∈ foot k vh (.slice a2 d.waits.length n2) ∨ w.heap.size ≤ g) ∧ kr ∉ foot k vh vw') := by
                    refine hd ⟨.slice (some ⟨g, 0, none⟩) (d.waits.length + 1) cap, ⟨?_, ?_, ?_, ?_⟩, HQX.out.set_other (p := ⟨k, 1, none⟩) hq5 _, HQR.out.set_other (p := ⟨k, 1, none⟩) hq3 _, hU1.setCell (p := ⟨k, 1, none⟩) (.inl (mem_foot.2 (.inl rfl))) _, ?_, ?_⟩
                    · exact HQ.out.set 1 _
                    · refine own_upd (L := [k]) (own_upd (own_upd (L := []) (HH.out.later HU5.out).held (((Upd.refl [] w5).alloc _).drew) (by simp)) hgw (fun i hi hm => HAP.out i hi (by simpa using hm))) ((Upd.refl [k] w1).setCell (p := ⟨k, 1, none⟩) (.inl (by simp)) _) (fun i hi hm => ?_)
                      simp only [List.mem_cons, List.not_mem_nil, or_false] at hm
                      subst hm
                      exact HNE.out.1 hi
                    · have ho : LkRow B w1 (.slice (some ⟨g, 0, none⟩) (d.waits.length + 1) cap) (d.waits ++ [{ x with tok := 0 }]) := by
                        unfold LkRow
                        rw [happ, List.length_append]
                        exact HOWN.out
                      exact own_upd (L := [k]) ho ((Upd.refl [k] w1).setCell (p := ⟨k, 1, none⟩) (.inl (by simp)) _) (fun i hi hm => by
                        simp only [List.mem_cons, List.not_mem_nil, or_false] at hm
                        simp only [Value.ownBlock, Option.some.injEq] at hi
                        exact hgb.1 (by omega))
                    · intro i hi hi'
                      simp only [Value.ownBlock, Option.some.injEq] at hi'
                      subst hi'
                      exact hgb.2.2.2 hi
                    · intro i hi
                      rcases mem_foot.1 hi with e | e | e
                      · exact .inl (mem_foot.2 (.inl e))
                      · exact .inl (mem_foot.2 (.inr (.inl e)))
                      · simp only [Value.ownBlock, Option.some.injEq] at e
                        subst e
                        exact hgb.2.2.1
                    · intro hi
                      rcases mem_foot.1 hi with e | e | e
                      · exact hq3 e
                      · have := (HHL.out kr e).2; have := HKK.out.2.1; omega
                      · simp only [Value.ownBlock, Option.some.injEq] at e
                        exact hgb.2.1 e
                  clear hgw hgb hU1 happ HQ HQX HQR HOWN HGW HAT
                  go_wp2_with fail
                  go_meet
                  case rel => exact HPOST.out
              case rest =>
                obtain ⟨vw', hbk7, hbx7, hbr7, hu7, hft7, hkr7⟩ := hcut
                have HPL := hd (show ∃ n7 a7 c7, vw' = .slice a7 n7 c7 ∧ n7 = d.waits.length + 1 by
                  obtain ⟨a7, c7, e7, -⟩ := own_open hbk7.waits
                  exact ⟨_, a7, c7, e7, by simp⟩)
                obtain ⟨n7, a7, c7, rfl, hn7⟩ := HPL.out
                have hb7 := hbk7.blk
                simp only [BkS.cells] at hb7
                have k7 := hb7.cell
                have kl7 := hb7.lt
                have x7 := hbx7.cell
                have xl7 := hbx7.lt
                have r7 := hbr7.cell
                have rz7 := hbr7.frozen
                have rl7 := hbr7.lt
                have HBK7 := hd hbk7
                have HBR7 := hd hbr7
                have HU7 := hd hu7
                have HFT7 := hd hft7
                have HKR7 := hd hkr7
                have HN7 := hd (show (n7 : Int) = (d.waits.length : Int) + 1 by omega)
                clear hbk7 hbx7 hbr7 hu7 hft7 hkr7 hb7 hn7 HPL hkc5 hkz5 hcx5 hrz5 hrc5
                go_upto_region 18 with fail
                go_region
                all_goals
                  go_wp2_with fail
                  refine bodyPost_ret (res_lk3 _ 6 7 8 rfl _ _ kr { x with tok := 0 } (.int .i64 (n7 : Int)) (.int .i64 0) rfl rfl rfl (put4 HBR7.out { x with tok := 0 })) rfl ?_
                  rw [HR5.out, HN7.out]
                  have hfin : BookAt B ((((wc.setCell ⟨kr, 0, none⟩ (.int .i64 x.ses)).setCell ⟨kr, 1, none⟩ (.string (txt (textL x.path)))).setCell ⟨kr, 2, none⟩ (.bool x.excl)).setCell ⟨kr, 3, none⟩ (.int .u64 0)) k vh (.slice a7 n7 c7) { d with waits := d.waits ++ [{ x with tok := 0 }] } := HBK7.out.later' (up4 (Upd.refl [kr] _) (.inl (by simp)) _ _ _ _) (fun i hi hm => by
                    simp only [List.mem_cons, List.not_mem_nil, or_false] at hm
                    subst hm
                    exact HKR7.out hi)
                  first
                  | exact ⟨_, _, rfl, hfin.later ((Upd.refl [] _).drew), (up4 HU7.out (.inr HKK.out.2.1) _ _ _ _).drew, HFT7.out⟩
                  | exact ⟨rfl, _, _, hfin.later ((Upd.refl [] _).drew), (up4 HU7.out (.inr HKK.out.2.1) _ _ _ _).drew, HFT7.out⟩
        · have HR3 := hd (HR2.out.trans (if_pos rfl))
          by_cases hla : d.last = 18446744073709551615
          · have hla' : (d.last == 18446744073709551615) = true := by simpa using hla
            have HR4 := hd (HR3.out.trans (if_pos hla))
            clear hla
            go_wp2_with fail
            refine bodyPost_ret (res_lk3 _ 6 7 8 rfl _ _ kr zeroK (.int .i64 0) (.int .i64 19) rfl rfl rfl (put4 HBR5.out zeroK)) rfl ?_
            rw [HR4.out]
            first | exact ⟨_, _, rfl, HSF.out _ (up4 HU5.out (.inr HKK.out.2.1) _ _ _ _)⟩ | exact ⟨rfl, _, _, HSF.out _ (up4 HU5.out (.inr HKK.out.2.1) _ _ _ _)⟩
          · have hla' : (d.last == 18446744073709551615) = false := by simpa using hla
            have HR4 := hd (HR3.out.trans (if_neg hla))
            have HG5 := hd (HGR.out (by omega) _ HU5.out)
            have HTV := hd (show (tokd d { x with tok := 0 }).val = .agg #[.int .i64 x.ses, .string (txt (textL x.path)), .bool x.excl, .int .u64 (d.last + 1)] from rfl)
            have HTX := hd (show tokd d { x with tok := 0 } = tokd d x from rfl)
            rw [HTV.out] at HG5
            clear hla
            go_wp2_with fail
            refine HG5.out.mono ?_
            rintro e w6 ⟨vh6, rfl, hbk6, hu6, hg6⟩
            have hrn : kr ∉ k :: vh.ownBlock.toList := fun hm => by
              rcases List.mem_cons.1 hm with e | hm
              · have := HKK.out; omega
              · have := (HHL.out kr (by simpa using hm)).2; have := HKK.out.2.1; omega
            have HBR6 := hd (HBR5.out.upd hu6 hrn)
            have hrz6 := HBR6.out.frozen
            have hrc6 := HBR6.out.cell
            have hrl6 := HBR6.out.lt
            have HBK6 := hd hbk6
            have HUF := hd (show Upd (foot k vh (.slice a2 d.waits.length n2)) w w6 from (HU5.out.mono (by simp)).trans (hu6.mono (fun i hi => .inl (mem_foot.2 (by
              rcases List.mem_cons.1 hi with e | hm
              · exact .inl e
              · exact .inr (.inl (by simpa using hm)))))))
            have HG6 := hd hg6
            clear hbk6 hu6 hrn hg6 hrz5 hrc5 hkc5 hkz5 hcx5
            go_wp2_with fail
            refine bodyPost_ret (res_lk3 _ 6 7 8 rfl _ _ kr (tokd d x) (.int .i64 0) (.int .i64 0) rfl rfl rfl (put4 HBR6.out (tokd d x))) rfl ?_
            rw [HR4.out]
            refine ⟨vh6, .slice a2 d.waits.length n2, rfl, ?_, up4 HUF.out (.inr HKK.out.2.1) _ _ _ _, fun g hg => ?_⟩
            · refine HBK6.out.later' (up4 (Upd.refl [kr] _) (.inl (by simp)) _ _ _ _) (fun i hi hm => ?_)
              simp only [List.mem_cons, List.not_mem_nil, or_false] at hm
              subst hm
              have h5 := HU5.out.size
              rcases mem_foot.1 hi with e | e | e
              · have := HKK.out; omega
              · rcases HG6.out i e with e | e
                · have := (HHL.out i e).2; have := HKK.out.2.1; omega
                · have := HBR5.out.lt; omega
              · have := (HWL.out i e).2; have := HKK.out.2.1; omega
            · rcases mem_foot.1 hg with e | e | e
              · exact .inl (mem_foot.2 (.inl e))
              · rcases HG6.out g e with e | e
                · exact .inl (mem_foot.2 (.inr (.inl e)))
                · exact .inr (by have := HU5.out.size; omega)
              · exact .inl (mem_foot.2 (.inr (.inr e)))
end Go.Proofs.YtpniggmdokkkcaaGreatDoor
