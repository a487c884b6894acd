/-
  The law DiskKeeps of layer 11 (chatelainelaw11.DiskKeeps), walked: it answers true. Condition: both lists of calls read as lists.
-/
import Derived.Test.YtjaoiaknglnomaaRoom11
import Derived.Test.YtjaoiaknglnomaaPlain11k
set_option linter.unusedVariables false
set_option linter.unusedSimpArgs false
set_option maxRecDepth 100000
namespace Go.Proofs.Ytjaoiaknglnomaa
open Go.RowKit

theorem i64_and3 (n : Int) : bits .and .i64 n 3 = n % 4 := by
  have h3 : (BitVec.ofInt 64 3).toNat = 2 ^ 2 - 1 := by decide
  have key : (BitVec.ofInt 64 n &&& BitVec.ofInt 64 3).toNat = (n % ((2 ^ 64 : Nat) : Int)).toNat % 2 ^ 2 := by
    rw [BitVec.toNat_and, BitVec.toNat_ofInt, h3, Nat.and_two_pow_sub_one_eq_mod]
  show IntKind.i64.wrap ((BitVec.ofInt 64 n &&& BitVec.ofInt 64 3).toNat : Nat) = n % 4
  rw [key, IntKind.wrap_i64]
  omega

/-- What holds at the head of each loop. -/
def KeepInv (w : World) (b X : Nat) (wr : World) (D x : DiskS) (l : Value) : Prop :=
  Good 2000 0 D ∧ Good 2000 (-1) x ∧ Upd [] w wr ∧ DiskAt wr b D ∧ RefAt w.heap.size wr l x ∧ Blk wr X #[l, .int .i64 x.room, .int .i64 x.fail] 28

set_option maxHeartbeats 4000000 in
theorem keeps_law (v vm : Value) (n m : Nat) (f : Int) (w : World) (hv : ActsAt w.heap.size w v n) (hvm : ActsAt w.heap.size w vm m) :
    Calls Try.prog 3 #[v, vm, .int .i64 f] w fun e w' => e = .returned (.bool true) ∧ Upd [] w w' := by
  obtain ⟨a, c, rfl, hnc, hc, hel⟩ := hv
  obtain ⟨am, cm, rfl, hmc, hcm, helm⟩ := hvm
  have HE := hd hel
  have HEM := hd helm
  clear hel helm
  have hand := i64_and3 f
  have hf0 := Int.emod_nonneg f (b := 4) (by omega)
  have hf4 := Int.emod_lt_of_pos f (b := 4) (by omega)
  generalize f % 4 = fi at *
  obtain ⟨i, rfl⟩ : ∃ i : Nat, fi = i := ⟨fi.toNat, by omega⟩
  have hi4 : i < 4 := by omega
  clear hf0 hf4
  go_enter Try.func3, Try.ntmps3
  go_wp2_with fail
  refine (awake_any w).mono ?_
  rintro e w1 ⟨rfl, hu1⟩
  have HU1 := hd hu1
  clear hu1
  go_wp2_with fail
  refine (new_any 2000 _).mono ?_
  rintro e w2 ⟨b, rfl, hb, hu2, hd2⟩
  rw [show max (2000 : Int) 0 = 2000 by omega] at hd2
  have HB' := hd (show w.heap.size ≤ b by have := HU1.out.size; omega)
  have HU2 := hd hu2
  have HD2 := hd hd2
  clear hb hu2 hd2
  go_wp2_with fail
  refine (new_ref 2000 _).mono ?_
  rw [show max (2000 : Int) 0 = 2000 by omega]
  rintro e w3 ⟨l3, rfl, hu3, hr3⟩
  obtain ⟨g3, cap3, rfl, hg3, hgl3, _, _, _⟩ := own_cases hr3 (by omega)
  have hlb := HD2.out.lt
  have HINV := hd (show KeepInv w b w3.heap.size (w3.alloc (.cells #[.slice (some ⟨g3, 0, none⟩) 4 cap3, .int .i64 2000, .int .i64 (-1)] 28)) (DiskS.fresh 2000 0) (DiskS.fresh 2000 (-1)) (.slice (some ⟨g3, 0, none⟩) 4 cap3) from
    ⟨good_fresh 2000 0 0 (by omega) (by omega) (by omega), good_fresh 2000 (-1) (-1) (by omega) (by omega) (by omega), (HU1.out.trans (HU2.out.trans hu3)).alloc _, (HD2.out.upd hu3 (by simp)).alloc _,
      own_upd (L := []) (own_mono hr3 (by have := HU1.out.size; have := HU2.out.size; omega)) ((Upd.refl _ _).alloc _) (fun _ _ => by simp), Blk.new _ _ _⟩)
  have hnb : b ≠ w3.heap.size := by have := hu3.size; omega
  have HX' := hd (show w.heap.size ≤ w3.heap.size by have := HU1.out.size; have := HU2.out.size; have := hu3.size; omega)
  clear hu3 hr3 HU1 HU2 HD2
  go_wp2_with fail
  go_loopw [9] (fun i wr => ∃ (k : Nat) (D x : DiskS) (l : Value), k ≤ n ∧ i = .int .i64 k ∧ KeepInv w b w3.heap.size wr D x l) (fun i _ => n - (intOf i).toNat)
  case atStart => exact ⟨0, _, _, _, by omega, rfl, HINV.out⟩
  case round =>
    clear HINV
    obtain ⟨k, D, x, l, hk, rfl, hinv⟩ := hrel
    obtain ⟨hGD, hGx, hu, hdd, hr, hbx⟩ := hinv
    obtain ⟨g, cap, rfl, hg, hgl, hcap, _, _⟩ := own_cases hr (by omega)
    have hgb := own_ne_blk hr hdd (by decide)
    have hgx := own_ne_blk hr hbx (by decide)
    have hlbx := hbx.lt
    have hlb' := hdd.lt
    have HU := hd hu
    have HD := hd hdd
    have HR := hd hr
    have HBX := hd hbx
    have HGD := hd hGD
    have HGX := hd hGx
    clear hu hdd hr hbx hGD hGx
    by_cases hgo : k < n ∧ k < 20
    · obtain ⟨hkn, hk20⟩ := hgo
      obtain ⟨ka, oa, rfl, hka, hact⟩ := HE.out (by omega)
      obtain ⟨⟨kind, F, N, S, cv, cs⟩, m0, m1, m2, m3, m4, hS, hcs⟩ := hact k hkn
      have hold : ∀ o, wr.cell? ⟨ka, o, none⟩ = w.cell? ⟨ka, o, none⟩ := fun o => (HU.out.below (Nat.le_refl _) (by simp)).cell (p := ⟨ka, o, none⟩) hka
      have n0 := (hold _).trans m0
      have n1 := (hold _).trans m1
      have n2 := (hold _).trans m2
      have n3 := (hold _).trans m3
      have n4 := (hold _).trans m4
      simp only at n0 n1 n2 n3 n4 hS
      have HCS := hd (show IntsAt b wr cv cs from (hcs b HB'.out).upd HU.out (by simp))
      have hR2 : (2000 : Int) ≤ 1073741824 := by omega
      have hwr : w.heap.size ≤ wr.heap.size := HU.out.size
      have hgb' : ∀ g', (Value.slice (some ⟨g, 0, none⟩) 4 cap).ownBlock = some g' → g' ≠ b := fun g' e => by simp [Value.ownBlock] at e; omega
      have HB5 := HB'.out
      clear hold m0 m1 m2 m3 m4 hcs hact
      have e0 : wr.cell? ⟨w3.heap.size, 0, none⟩ = some (.slice (some ⟨g, 0, none⟩) 4 cap) := HBX.out.cell 0
      have e1 : wr.cell? ⟨w3.heap.size, 1, none⟩ = some (.int .i64 x.room) := HBX.out.cell 1
      have e2 : wr.cell? ⟨w3.heap.size, 2, none⟩ = some (.int .i64 x.fail) := HBX.out.cell 2
      go_wp2_with fail
      go_region_with (first | (go_at_call 17; refine (do_any 2000 D x (.slice (some ⟨g, 0, none⟩) 4 cap) cv kind F N S cs wr.drew b w.heap.size HD.out HR.out HGD.out HGX.out hR2 HCS.out hwr hgb' hS).mono ?_; rintro e w4 ⟨D', x', hG', hGx', _, l', ok, rfl, hu4, hd4, hr4⟩; obtain ⟨g4, cap4, rfl, hg4, hgl4, _, _, _⟩ := own_cases hr4 (by omega); have hbx4 := Blk.upd (show Blk wr.drew w3.heap.size _ _ from HBX.out) hu4 (by simpa using Ne.symm hnb); have hz4 := hbx4.frozen; have hc4 := hbx4.cell; have hne4 := own_ne_blk hr4 hbx4 (by decide); have HB4 := hd hbx4; have HU4 := hd hu4; have HD4 := hd hd4; have HR4 := hd hr4; have HG4 := hd hG'; have HGx4 := hd hGx'; clear hu4 hd4 hr4 hG' hGx' hbx4))
      all_goals
        go_wp2_with fail
        go_roundw
        case rel =>
          have hU45 : Upd [b, w3.heap.size] wr (((w4.setCell ⟨w3.heap.size, 0, none⟩ (.slice (some ⟨g4, 0, none⟩) 4 cap4)).setCell ⟨w3.heap.size, 1, none⟩ (.int .i64 x'.room)).setCell ⟨w3.heap.size, 2, none⟩ (.int .i64 x'.fail)) := ((Upd.refl _ wr).drew.trans (HU4.out.mono (by simp))).trans (by repeat (first | with_reducible exact HU4.out | with_reducible exact Upd.refl _ _ | with_reducible refine Upd.alloc ?_ _ | with_reducible refine Upd.drew ?_ | with_reducible refine Upd.setCell ?_ (by first | (simp; done) | (simp; omega)) _))
          refine ⟨k + 1, D', x', .slice (some ⟨g4, 0, none⟩) 4 cap4, by omega, by go_num, HG4.out, HGx4.out, HU.out.trans' hU45 ?_, (by repeat (first | with_reducible exact HD4.out | with_reducible refine Blk.alloc ?_ _ | with_reducible refine Blk.drew ?_ | with_reducible refine Blk.set_other ?_ (by first | (simp; done) | (simp; omega)) _ | exact HD4.out)), ?_, ((HB4.out.set 0 _).set 1 _).set 2 _⟩
          · have := HX'.out; simp; omega
          · exact own_upd (L := [w3.heap.size]) HR4.out (by repeat (first | with_reducible exact HR4.out | with_reducible exact Upd.refl _ _ | with_reducible refine Upd.alloc ?_ _ | with_reducible refine Upd.drew ?_ | with_reducible refine Upd.setCell ?_ (by first | (simp; done) | (simp; omega)) _)) (by simpa [Value.ownBlock] using hne4)
        case measure => simp [intOf]; omega
    · have hcb := HBX.out.cell
      have hzb := HBX.out.frozen
      have HWR := hd (show w.heap.size ≤ wr.heap.size from HU.out.size)
      have hgo' : ¬ (k < n ∧ k < 20) := hgo
      have hw1 : decide ((k : Int) < (n : Int)) = false ∨ (decide ((k : Int) < (n : Int)) = true ∧ decide ((k : Int) < 20) = false) := by
        by_cases h1 : k < n
        · exact .inr ⟨by simp; omega, by simp; omega⟩
        · exact .inl (by simp; omega)
      have hw2 : decide (k < n) = false ∨ (decide (k < n) = true ∧ decide (k < 20) = false) := by
        by_cases h1 : k < n
        · exact .inr ⟨by simp; omega, by simp; omega⟩
        · exact .inl (by simp; omega)
      have hkk : ¬ k < n ∨ (k < n ∧ ¬ k < 20) := by omega
      have hW1 := hd hw1
      have hW2 := hd hw2
      clear hgo hgo' hw1 hw2
      rcases hkk with hkn | ⟨hkn, hk20⟩
      all_goals
        go_wp2_with fail
        refine (fail_any D (-1) _ b HD.out).mono ?_
        rintro e w4 ⟨rfl, hu4, hd4⟩
        rw [show max (min (-1 : Int) 1073741824) (-1) + 1 = 0 by omega] at hd4
        have hG4 := HGD.out.fail 0 (by omega) (by omega)
        have hb4 := HBX.out.upd hu4 (by simpa using Ne.symm hnb)
        have hr4 := own_upd (L := [b]) HR.out hu4 (by simpa [Value.ownBlock] using hgb)
        have hcb4 := hb4.cell
        have hzb4 := hb4.frozen
        have hl4 := hb4.lt
        have hlb4 := hd4.lt
        have HB4 := hd hb4
        have HR4 := hd hr4
        have HD4 := hd hd4
        have HU4 := hd (HU.out.trans' hu4 (by have := HB'.out; simp; omega))
        clear hu4 hb4 hr4 hd4 HD HBX HR HU hcb hzb
        go_wp2_with fail
        refine (sync_any { D with fail := 0 } i _ b (by repeat (first | with_reducible exact HD4.out | with_reducible refine Blk.alloc ?_ _ | with_reducible refine Blk.drew ?_ | with_reducible refine Blk.set_other ?_ (by first | (simp; done) | (simp; omega)) _ | exact HD4.out)) (hG4.fine (by omega))).mono ?_
        have hsy : ({ D with fail := 0 } : DiskS).syncIt i = (0, ({ D with fail := 0 } : DiskS).set i ⟨(D.get i).now, (D.get i).now, false⟩) := by
          have ht : tryRes 0 i = (0, 0) := by simp [tryRes]; omega
          simp only [DiskS.syncIt, ht, if_true, DiskS.tried, Int.toNat_natCast]
          rfl
        rw [hsy]
        rintro e w5 ⟨rfl, hu5, hd5⟩
        have hG5 : Good 2000 0 (({ D with fail := 0 } : DiskS).set i ⟨(D.get i).now, (D.get i).now, false⟩) := by
          have := hG4.sync i
          rwa [hsy] at this
        have hget : (({ D with fail := 0 } : DiskS).set i ⟨(D.get i).now, (D.get i).now, false⟩).get i = ⟨(D.get i).now, (D.get i).now, false⟩ := DiskS.get_set_eq _ _ _ hi4
        generalize hS : (D.get i).now = S0 at *
        generalize hD5 : ({ D with fail := 0 } : DiskS).set i ⟨S0, S0, false⟩ = D5 at *
        have HS0 := hd (show S0.size ≤ 2000 by have := HGD.out.now i; rw [hS] at this; omega)
        have HG5 := hd hG5
        have HGET := hd hget
        have HD5 := hd hd5
        have hU5 : Upd [b, w3.heap.size] w4 w5 := ((Upd.refl [b, w3.heap.size] w4).setCell (by simp) _).trans (hu5.mono (by simp))
        have hb5 : Blk w5 w3.heap.size #[.slice (some ⟨g, 0, none⟩) 4 cap, .int .i64 x.room, .int .i64 (-1)] 28 := Blk.upd (HB4.out.set 2 (.int .i64 (-1))) hu5 (by simpa using Ne.symm hnb)
        have hr5 := own_upd (L := [b]) (own_upd (L := [w3.heap.size]) HR4.out ((Upd.refl _ _).setCell (p := ⟨w3.heap.size, 2, none⟩) (by simp) (.int .i64 (-1))) (by simpa [Value.ownBlock] using hgx)) hu5 (by simpa [Value.ownBlock] using hgb)
        have hGx5 := HGX.out.fail (-1) (by omega) (by omega)
        have hcb5 := hb5.cell
        have hzb5 := hb5.frozen
        have hl5 := hb5.lt
        have HB5 := hd hb5
        have HR5 := hd hr5
        have HGX5 := hd hGx5
        have HU5 := hd (HU4.out.trans' hU5 (by have := HB'.out; have := HX'.out; simp; omega))
        have HDL := hd hd5.lt
        clear hu5 hd5 hG5 hget hS hD5 hsy hU5 hb5 hr5 hGx5 hcb4 hzb4 HB4 HR4 HD4 HU4
        go_wp2_with fail
        refine (read_any D5 i _ b HD5.out).mono ?_
        rw [show D5.readIt i = (S0, 0) by unfold DiskS.readIt; rw [if_pos (by omega), Int.toNat_natCast, HGET.out]]
        rintro e w6 ⟨rfl, hu6⟩
        have hb6 := HB5.out.upd hu6 (by simp)
        have hr6 := own_upd (L := []) HR5.out hu6 (fun _ _ => by simp)
        have hcb6 := hb6.cell
        have hzb6 := hb6.frozen
        have hl6 := hb6.lt
        have HB6 := hd hb6
        have HR6 := hd hr6
        have HD6 := hd (HD5.out.upd hu6 (by simp))
        have HU6 := hd (HU5.out.trans hu6)
        clear hu6 hb6 hr6 hcb5 hzb5
        go_wp2_with fail
        have hGs := HGX5.out
        refine (do_ref { x with fail := -1 } (.slice (some ⟨g, 0, none⟩) 4 cap) 2 i ⟨#[]⟩ _ w.heap.size HR6.out (hGs.small (by omega)) (fun f hf => by
            have h0 := hGs.now 0
            have h1 := hGs.now 1
            have h2 := hGs.now 2
            have h3 := hGs.now 3
            simp only [DiskS.get] at h0 h1 h2 h3
            simp only [List.mem_cons, List.not_mem_nil, or_false] at hf
            rw [show (⟨#[]⟩ : ByteArray).size = 0 from rfl]
            rcases hf with rfl | rfl | rfl | rfl <;> first | omega | (simp only; omega)) (HU6.out.size) (by simp) (by simp)).mono ?_
        rintro e w7 ⟨l7, rfl, hu7, hr7⟩
        have hGx7 := hGs.refDo 2 i ⟨#[]⟩
        generalize (refDo { x with fail := -1 } 2 i ⟨#[]⟩).1 = x7 at *
        generalize (refDo { x with fail := -1 } 2 i ⟨#[]⟩).2 = r7 at *
        obtain ⟨g7, cap7, rfl, hg7, hgl7, _, _, _⟩ := own_cases hr7 (by omega)
        have hb7 := HB6.out.upd hu7 (by simp)
        have hd7 := HD6.out.upd hu7 (by simp)
        have hn7 := own_ne_blk hr7 hb7 (by decide)
        have hcb7 := hb7.cell
        have hzb7 := hb7.frozen
        have hl7 := hb7.lt
        have HINV2 := hd (show KeepInv w b w3.heap.size (((w7.setCell ⟨w3.heap.size, 0, none⟩ (.slice (some ⟨g7, 0, none⟩) 4 cap7)).setCell ⟨w3.heap.size, 1, none⟩ (.int .i64 x7.room)).setCell ⟨w3.heap.size, 2, none⟩ (.int .i64 x7.fail)) D5 x7 (.slice (some ⟨g7, 0, none⟩) 4 cap7) from
          ⟨HG5.out, hGx7, (HU6.out.trans hu7).trans' (M := [w3.heap.size]) (by repeat (first | with_reducible exact hu7 | with_reducible exact Upd.refl _ _ | with_reducible refine Upd.alloc ?_ _ | with_reducible refine Upd.drew ?_ | with_reducible refine Upd.setCell ?_ (by first | (simp; done) | (simp; omega)) _)) (by have := HX'.out; simp; omega), (by repeat (first | with_reducible exact hd7 | with_reducible refine Blk.alloc ?_ _ | with_reducible refine Blk.drew ?_ | with_reducible refine Blk.set_other ?_ (by first | (simp; done) | (simp; omega)) _ | exact hd7)), own_upd (L := [w3.heap.size]) hr7 (by repeat (first | with_reducible exact hu7 | with_reducible exact Upd.refl _ _ | with_reducible refine Upd.alloc ?_ _ | with_reducible refine Upd.drew ?_ | with_reducible refine Upd.setCell ?_ (by first | (simp; done) | (simp; omega)) _)) (by simpa [Value.ownBlock] using hn7), ((hb7.set 0 _).set 1 _).set 2 _⟩)
        have hkp7 := Kept.of_same (K := S0.data.toList) (s := S0) List.prefix_rfl
        rw [← HGET.out] at hkp7
        have HKP7 := hd hkp7
        clear hcb6 hzb6 hl6 HB6 HR6 HD6 HU6 hGs hGx7 hu7 hd7 hkp7 HB5 HR5 HGX5 HU5 HD5 HGX HGD
        go_wp2_with fail
        go_loopw [12] (fun j wr' => ∃ (k' : Nat) (D' x' : DiskS) (l' : Value), k' ≤ m ∧ j = .int .i64 k' ∧ KeepInv w b w3.heap.size wr' D' x' l' ∧ Kept S0.data.toList (D'.get i)) (fun j _ => m - (intOf j).toNat)
        case atStart => exact ⟨0, _, _, _, by omega, rfl, HINV2.out, HKP7.out⟩
        case round =>
          clear HINV2 HKP7
          obtain ⟨k', D', x', l', hk', rfl, hinv, hkp⟩ := hrel
          have HKP := hd hkp
          clear hkp
          obtain ⟨hGD, hGx, hu, hdd, hr, hbx⟩ := hinv
          obtain ⟨g, cap, rfl, hg, hgl, hcap, _, _⟩ := own_cases hr (by omega)
          have hgb := own_ne_blk hr hdd (by decide)
          have hgx := own_ne_blk hr hbx (by decide)
          have hlbx := hbx.lt
          have hlb' := hdd.lt
          have HU := hd hu
          have HD := hd hdd
          have HR := hd hr
          have HBX := hd hbx
          have HGD := hd hGD
          have HGX := hd hGx
          clear hu hdd hr hbx hGD hGx
          by_cases hgo : k' < m ∧ k' < 20
          · obtain ⟨hkn, hk20⟩ := hgo
            obtain ⟨ka, oa, rfl, hka, hact⟩ := HEM.out (by omega)
            obtain ⟨⟨kind, F, N, S, cv, cs⟩, m0, m1, m2, m3, m4, hS, hcs⟩ := hact k' hkn
            have hold : ∀ o, wr.cell? ⟨ka, o, none⟩ = w.cell? ⟨ka, o, none⟩ := fun o => (HU.out.below (Nat.le_refl _) (by simp)).cell (p := ⟨ka, o, none⟩) hka
            have n0 := (hold _).trans m0
            have n1 := (hold _).trans m1
            have n2 := (hold _).trans m2
            have n3 := (hold _).trans m3
            have n4 := (hold _).trans m4
            simp only at n0 n1 n2 n3 n4 hS
            have HCS := hd (show IntsAt b wr cv cs from (hcs b HB'.out).upd HU.out (by simp))
            have hR2 : (2000 : Int) ≤ 1073741824 := by omega
            have hwr : w.heap.size ≤ wr.heap.size := HU.out.size
            have hgb' : ∀ g', (Value.slice (some ⟨g, 0, none⟩) 4 cap).ownBlock = some g' → g' ≠ b := fun g' e => by simp [Value.ownBlock] at e; omega
            have HB5 := HB'.out
            clear hold m0 m1 m2 m3 m4 hcs hact
            have e0 : wr.cell? ⟨w3.heap.size, 0, none⟩ = some (.slice (some ⟨g, 0, none⟩) 4 cap) := HBX.out.cell 0
            have e1 : wr.cell? ⟨w3.heap.size, 1, none⟩ = some (.int .i64 x'.room) := HBX.out.cell 1
            have e2 : wr.cell? ⟨w3.heap.size, 2, none⟩ = some (.int .i64 x'.fail) := HBX.out.cell 2
            obtain ⟨a4, c4, rfl, hc41, hc42, hc43⟩ := HCS.out
            have HC43 := hd hc43
            clear hc43
            rcases (by omega : kind = 5 ∨ (kind = 1 ∧ F = i) ∨ (kind = 1 ∧ ¬ F = i) ∨ (¬ kind = 5 ∧ ¬ kind = 1)) with rfl | ⟨rfl, rfl⟩ | ⟨rfl, hF⟩ | ⟨hk5, hk1⟩
            · go_wp2_with fail
              refine ⟨⟨k' + 1, D', x', _, by omega, by go_num, ⟨HGD.out, HGX.out, HU.out.alloc _, HD.out.alloc _, own_upd (L := []) HR.out ((Upd.refl _ _).alloc _) (fun _ _ => by simp), HBX.out.alloc _⟩, HKP.out⟩, by simp [intOf]; omega⟩
            · go_wp2_with fail
              refine ⟨⟨k' + 1, D', x', _, by omega, by go_num, ⟨HGD.out, HGX.out, HU.out.alloc _, HD.out.alloc _, own_upd (L := []) HR.out ((Upd.refl _ _).alloc _) (fun _ _ => by simp), HBX.out.alloc _⟩, HKP.out⟩, by simp [intOf]; omega⟩
            · have hFb : (F == (i : Int)) = false := by simpa using hF
              have hFd : decide (F = (i : Int)) = false := by simpa using hF
              go_wp2_with fail
              refine (do_any 2000 D' x' (.slice (some ⟨g, 0, none⟩) 4 cap) (.slice a4 cs.length c4) 1 F N S cs _ b w.heap.size (HD.out.alloc _) (own_upd (L := []) HR.out ((Upd.refl _ _).alloc _) (fun _ _ => by simp)) HGD.out HGX.out hR2 (HCS.out.upd ((Upd.refl [] _).alloc _) (by simp)) (by simp; omega) hgb' hS).mono ?_
              rintro e w8 ⟨D'', x'', hG', hGx', hact, l'', ok, rfl, hu8, hd8, hr8⟩
              have hact := hact (by omega)
              obtain ⟨g8, cap8, rfl, hg8, hgl8, _, _, _⟩ := own_cases hr8 (by omega)
              have hbx8 := Blk.upd (HBX.out.alloc _) hu8 (by simpa using Ne.symm hnb)
              have hz8 := hbx8.frozen
              have hc8 := hbx8.cell
              have hne8 := own_ne_blk hr8 hbx8 (by decide)
              have HB8 := hd hbx8
              have HU8 := hd hu8
              have HD8 := hd hd8
              have HR8 := hd hr8
              have HG8 := hd hG'
              have HGx8 := hd hGx'
              have HKP8 := hd (show Kept S0.data.toList (D''.get i) by rw [hact]; exact kept_act hi4 HKP.out _ _ _ _ _ (by omega))
              clear hu8 hd8 hr8 hG' hGx' hbx8
              go_wp2_with fail
              have hU8 : Upd [b, w3.heap.size] wr (((w8.setCell ⟨w3.heap.size, 0, none⟩ (.slice (some ⟨g8, 0, none⟩) 4 cap8)).setCell ⟨w3.heap.size, 1, none⟩ (.int .i64 x''.room)).setCell ⟨w3.heap.size, 2, none⟩ (.int .i64 x''.fail)) := (((Upd.refl _ wr).alloc _).trans (HU8.out.mono (by simp))).trans (by repeat (first | with_reducible exact HU8.out | with_reducible exact Upd.refl _ _ | with_reducible refine Upd.alloc ?_ _ | with_reducible refine Upd.drew ?_ | with_reducible refine Upd.setCell ?_ (by first | (simp; done) | (simp; omega)) _))
              refine ⟨⟨k' + 1, D'', x'', .slice (some ⟨g8, 0, none⟩) 4 cap8, by omega, by go_num, ⟨HG8.out, HGx8.out, HU.out.trans' hU8 ?_, (by repeat (first | with_reducible exact HD8.out | with_reducible refine Blk.alloc ?_ _ | with_reducible refine Blk.drew ?_ | with_reducible refine Blk.set_other ?_ (by first | (simp; done) | (simp; omega)) _ | exact HD8.out)), ?_, ((HB8.out.set 0 _).set 1 _).set 2 _⟩, HKP8.out⟩, by simp [intOf]; omega⟩
              · have := HX'.out; simp; omega
              · exact own_upd (L := [w3.heap.size]) HR8.out (by repeat (first | with_reducible exact HR8.out | with_reducible exact Upd.refl _ _ | with_reducible refine Upd.alloc ?_ _ | with_reducible refine Upd.drew ?_ | with_reducible refine Upd.setCell ?_ (by first | (simp; done) | (simp; omega)) _)) (by simpa [Value.ownBlock] using hne8)
            · have hFb : (kind == 5) = false := by simpa using hk5
              have hFd : decide (kind = 5) = false := by simpa using hk5
              have hFb1 : (kind == 1) = false := by simpa using hk1
              have hFd1 : decide (kind = 1) = false := by simpa using hk1
              go_wp2_with fail
              refine (do_any 2000 D' x' (.slice (some ⟨g, 0, none⟩) 4 cap) (.slice a4 cs.length c4) kind F N S cs _ b w.heap.size (HD.out.alloc _) (own_upd (L := []) HR.out ((Upd.refl _ _).alloc _) (fun _ _ => by simp)) HGD.out HGX.out hR2 (HCS.out.upd ((Upd.refl [] _).alloc _) (by simp)) (by simp; omega) hgb' hS).mono ?_
              rintro e w8 ⟨D'', x'', hG', hGx', hact, l'', ok, rfl, hu8, hd8, hr8⟩
              have hact := hact (by omega)
              obtain ⟨g8, cap8, rfl, hg8, hgl8, _, _, _⟩ := own_cases hr8 (by omega)
              have hbx8 := Blk.upd (HBX.out.alloc _) hu8 (by simpa using Ne.symm hnb)
              have hz8 := hbx8.frozen
              have hc8 := hbx8.cell
              have hne8 := own_ne_blk hr8 hbx8 (by decide)
              have HB8 := hd hbx8
              have HU8 := hd hu8
              have HD8 := hd hd8
              have HR8 := hd hr8
              have HG8 := hd hG'
              have HGx8 := hd hGx'
              have HKP8 := hd (show Kept S0.data.toList (D''.get i) by rw [hact]; exact kept_act hi4 HKP.out _ _ _ _ _ (by omega))
              clear hu8 hd8 hr8 hG' hGx' hbx8
              go_wp2_with fail
              have hU8 : Upd [b, w3.heap.size] wr (((w8.setCell ⟨w3.heap.size, 0, none⟩ (.slice (some ⟨g8, 0, none⟩) 4 cap8)).setCell ⟨w3.heap.size, 1, none⟩ (.int .i64 x''.room)).setCell ⟨w3.heap.size, 2, none⟩ (.int .i64 x''.fail)) := (((Upd.refl _ wr).alloc _).trans (HU8.out.mono (by simp))).trans (by repeat (first | with_reducible exact HU8.out | with_reducible exact Upd.refl _ _ | with_reducible refine Upd.alloc ?_ _ | with_reducible refine Upd.drew ?_ | with_reducible refine Upd.setCell ?_ (by first | (simp; done) | (simp; omega)) _))
              refine ⟨⟨k' + 1, D'', x'', .slice (some ⟨g8, 0, none⟩) 4 cap8, by omega, by go_num, ⟨HG8.out, HGx8.out, HU.out.trans' hU8 ?_, (by repeat (first | with_reducible exact HD8.out | with_reducible refine Blk.alloc ?_ _ | with_reducible refine Blk.drew ?_ | with_reducible refine Blk.set_other ?_ (by first | (simp; done) | (simp; omega)) _ | exact HD8.out)), ?_, ((HB8.out.set 0 _).set 1 _).set 2 _⟩, HKP8.out⟩, by simp [intOf]; omega⟩
              · have := HX'.out; simp; omega
              · exact own_upd (L := [w3.heap.size]) HR8.out (by repeat (first | with_reducible exact HR8.out | with_reducible exact Upd.refl _ _ | with_reducible refine Upd.alloc ?_ _ | with_reducible refine Upd.drew ?_ | with_reducible refine Upd.setCell ?_ (by first | (simp; done) | (simp; omega)) _)) (by simpa [Value.ownBlock] using hne8)
          · have hgo' : ¬ (k' < m ∧ k' < 20) := hgo
            have hw1 : decide ((k' : Int) < (m : Int)) = false ∨ (decide ((k' : Int) < (m : Int)) = true ∧ decide ((k' : Int) < 20) = false) := by
              by_cases h1 : k' < m
              · exact .inr ⟨by simp; omega, by simp; omega⟩
              · exact .inl (by simp; omega)
            have hw2 : decide (k' < m) = false ∨ (decide (k' < m) = true ∧ decide (k' < 20) = false) := by
              by_cases h1 : k' < m
              · exact .inr ⟨by simp; omega, by simp; omega⟩
              · exact .inl (by simp; omega)
            have hkk : ¬ k' < m ∨ (k' < m ∧ ¬ k' < 20) := by omega
            have hwr : w.heap.size ≤ wr.heap.size := HU.out.size
            have HW1' := hd hw1
            have HW2' := hd hw2
            clear hgo hgo' hw1 hw2 HBX HR HGX
            have hmm : m = 0 ∨ 0 < m := by omega
            rcases hkk with hkn | ⟨hkn, hk20⟩
            all_goals
              rcases hmm with rfl | hm0
              · first | omega | skip
                all_goals
                  go_wp2_with fail
                  refine (crash_any D' (.slice none 0 0) [] _ b HD.out (HGD.out.small (by omega)) HGD.out.ok ⟨none, 0, rfl, by simp, by omega, fun h => absurd rfl h⟩).mono ?_
                  rintro e w9 ⟨rfl, hu9, hd9⟩
                  have hG9 := HGD.out.crash []
                  obtain ⟨c0, hc0⟩ := crashTo_final D' [] 4 i hi4 (Nat.le_refl _)
                  have hpre := HKP.out.after c0
                  generalize (D'.get i).after c0 = T at hc0 hpre
                  have hg9 : (D'.crashIt []).get i = ⟨T, T, false⟩ := hc0
                  generalize D'.crashIt [] = D9 at hg9 hd9 hG9
                  have hT := hG9.now i
                  rw [hg9] at hT
                  have hlt9 := hd9.lt
                  have HD9 := hd hd9
                  have HU9 := hd (HU.out.trans' hu9 (by have := HB'.out; simp; omega))
                  have HG9 := hd hg9
                  have hlen := hpre.length_le
                  rw [size_data, size_data] at hlen
                  have hex : T.extract 0 S0.size = S0 := by
                    apply ByteArray.ext
                    apply Array.ext'
                    rw [data_extract, List.drop_zero]
                    have := List.prefix_iff_eq_take.1 hpre
                    rw [size_data] at this
                    exact this.symm
                  clear hu9 hd9 hG9 hc0 hpre hg9
                  go_wp2_with fail
                  refine (read_any D9 i _ b HD9.out).mono ?_
                  rw [show D9.readIt i = (T, 0) by unfold DiskS.readIt; rw [if_pos (by omega), Int.toNat_natCast, HG9.out]]
                  rintro e w10 ⟨rfl, hu10⟩
                  have HD10 := hd (HD9.out.upd hu10 (by simp))
                  have HU10 := hd (HU9.out.trans hu10)
                  clear hu10
                  go_wp2_with fail
                  refine (sure_any D9 i _ b HD10.out).mono ?_
                  rw [show D9.sureIt i = true by unfold DiskS.sureIt; rw [if_pos (by omega), Int.toNat_natCast, HG9.out]; simp]
                  rintro e w11 ⟨rfl, hu11⟩
                  have HU11 := hd (HU10.out.trans hu11)
                  clear hu11
                  go_wp2_with fail
                  refine bodyPost_ret (v := .bool true) (by simp [results, Try.results3, go_sem, hex]) rfl ?_
                  exact ⟨rfl, HU11.out⟩
              · obtain ⟨ka, oa, rfl, hka, hact⟩ := HEM.out hm0
                obtain ⟨⟨kind, F, N, S, cv, cs⟩, m0, m1, m2, m3, m4, hS, hcs⟩ := hact 0 hm0
                have hold : ∀ o, wr.cell? ⟨ka, o, none⟩ = w.cell? ⟨ka, o, none⟩ := fun o => (HU.out.below (Nat.le_refl _) (by simp)).cell (p := ⟨ka, o, none⟩) hka
                have n4 := (hold _).trans m4
                simp only at n4
                have HCS := hd (show IntsAt b wr cv cs from (hcs b HB'.out).upd HU.out (by simp))
                have hm0' : decide ((0 : Int) < (m : Int)) = true := by simp; omega
                have hm0'' : decide (0 < m) = true := by simp; omega
                clear hold m0 m1 m2 m3 m4 hcs hact
                obtain ⟨a4, c4, rfl, hc41, hc42, hc43⟩ := HCS.out
                have HC43 := hd hc43
                clear hc43
                have hcl : cs.length < 8 ∨ ¬ cs.length < 8 := by omega
                rcases hcl with hcl | hcl
                · go_wp2_with fail
                  refine (crash_any D' (.slice a4 cs.length c4) cs _ b HD.out (HGD.out.small (by omega)) HGD.out.ok HCS.out).mono ?_
                  rintro e w9 ⟨rfl, hu9, hd9⟩
                  have hG9 := HGD.out.crash cs
                  obtain ⟨c0, hc0⟩ := crashTo_final D' cs 4 i hi4 (Nat.le_refl _)
                  have hpre := HKP.out.after c0
                  generalize (D'.get i).after c0 = T at hc0 hpre
                  have hg9 : (D'.crashIt cs).get i = ⟨T, T, false⟩ := hc0
                  generalize D'.crashIt cs = D9 at hg9 hd9 hG9
                  have hT := hG9.now i
                  rw [hg9] at hT
                  have hlt9 := hd9.lt
                  have HD9 := hd hd9
                  have HU9 := hd (HU.out.trans' hu9 (by have := HB'.out; simp; omega))
                  have HG9 := hd hg9
                  have hlen := hpre.length_le
                  rw [size_data, size_data] at hlen
                  have hex : T.extract 0 S0.size = S0 := by
                    apply ByteArray.ext
                    apply Array.ext'
                    rw [data_extract, List.drop_zero]
                    have := List.prefix_iff_eq_take.1 hpre
                    rw [size_data] at this
                    exact this.symm
                  clear hu9 hd9 hG9 hc0 hpre hg9
                  go_wp2_with fail
                  refine (read_any D9 i _ b HD9.out).mono ?_
                  rw [show D9.readIt i = (T, 0) by unfold DiskS.readIt; rw [if_pos (by omega), Int.toNat_natCast, HG9.out]]
                  rintro e w10 ⟨rfl, hu10⟩
                  have HD10 := hd (HD9.out.upd hu10 (by simp))
                  have HU10 := hd (HU9.out.trans hu10)
                  clear hu10
                  go_wp2_with fail
                  refine (sure_any D9 i _ b HD10.out).mono ?_
                  rw [show D9.sureIt i = true by unfold DiskS.sureIt; rw [if_pos (by omega), Int.toNat_natCast, HG9.out]; simp]
                  rintro e w11 ⟨rfl, hu11⟩
                  have HU11 := hd (HU10.out.trans hu11)
                  clear hu11
                  go_wp2_with fail
                  refine bodyPost_ret (v := .bool true) (by simp [results, Try.results3, go_sem, hex]) rfl ?_
                  exact ⟨rfl, HU11.out⟩
                · go_wp2_with fail
                  refine (crash_any D' (.slice none 0 0) [] _ b HD.out (HGD.out.small (by omega)) HGD.out.ok ⟨none, 0, rfl, by simp, by omega, fun h => absurd rfl h⟩).mono ?_
                  rintro e w9 ⟨rfl, hu9, hd9⟩
                  have hG9 := HGD.out.crash []
                  obtain ⟨c0, hc0⟩ := crashTo_final D' [] 4 i hi4 (Nat.le_refl _)
                  have hpre := HKP.out.after c0
                  generalize (D'.get i).after c0 = T at hc0 hpre
                  have hg9 : (D'.crashIt []).get i = ⟨T, T, false⟩ := hc0
                  generalize D'.crashIt [] = D9 at hg9 hd9 hG9
                  have hT := hG9.now i
                  rw [hg9] at hT
                  have hlt9 := hd9.lt
                  have HD9 := hd hd9
                  have HU9 := hd (HU.out.trans' hu9 (by have := HB'.out; simp; omega))
                  have HG9 := hd hg9
                  have hlen := hpre.length_le
                  rw [size_data, size_data] at hlen
                  have hex : T.extract 0 S0.size = S0 := by
                    apply ByteArray.ext
                    apply Array.ext'
                    rw [data_extract, List.drop_zero]
                    have := List.prefix_iff_eq_take.1 hpre
                    rw [size_data] at this
                    exact this.symm
                  clear hu9 hd9 hG9 hc0 hpre hg9
                  go_wp2_with fail
                  refine (read_any D9 i _ b HD9.out).mono ?_
                  rw [show D9.readIt i = (T, 0) by unfold DiskS.readIt; rw [if_pos (by omega), Int.toNat_natCast, HG9.out]]
                  rintro e w10 ⟨rfl, hu10⟩
                  have HD10 := hd (HD9.out.upd hu10 (by simp))
                  have HU10 := hd (HU9.out.trans hu10)
                  clear hu10
                  go_wp2_with fail
                  refine (sure_any D9 i _ b HD10.out).mono ?_
                  rw [show D9.sureIt i = true by unfold DiskS.sureIt; rw [if_pos (by omega), Int.toNat_natCast, HG9.out]; simp]
                  rintro e w11 ⟨rfl, hu11⟩
                  have HU11 := hd (HU10.out.trans hu11)
                  clear hu11
                  go_wp2_with fail
                  refine bodyPost_ret (v := .bool true) (by simp [results, Try.results3, go_sem, hex]) rfl ?_
                  exact ⟨rfl, HU11.out⟩

end Go.Proofs.Ytjaoiaknglnomaa
