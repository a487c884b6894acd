/-
  The law DiskRoom of layer 11 (chatelainelaw11.DiskRoom), walked: it answers true. Condition: the list of calls reads as a list.
-/
import Derived.Test.YtjaoiaknglnomaaAwake11
import Derived.Deep.RegionHeld3
import Derived.BigRegion
import Derived.Deep.RegionWith
import Derived.Deep.DeepCutAuto
set_option linter.unusedVariables false
set_option linter.unusedSimpArgs false
set_option maxRecDepth 100000
namespace Go.Proofs.Ytjaoiaknglnomaa
open Go.RowKit

/-- One call of the list, at place k, o: whatever it is. -/
def ActAt (B : Nat) (w : World) (k o : Nat) (a : Int × Int × Int × ByteArray × Value × List Int) : Prop :=
  w.cell? ⟨k, o, none⟩ = some (.int .i64 a.1) ∧ w.cell? ⟨k, o + 1, none⟩ = some (.int .i64 a.2.1) ∧ w.cell? ⟨k, o + 2, none⟩ = some (.int .i64 a.2.2.1) ∧ w.cell? ⟨k, o + 3, none⟩ = some (.string a.2.2.2.1) ∧
  w.cell? ⟨k, o + 4, none⟩ = some a.2.2.2.2.1 ∧ a.2.2.2.1.size ≤ 9223372036854775807 ∧ ∀ b, B ≤ b → IntsAt b w a.2.2.2.2.1 a.2.2.2.2.2

/-- A list of calls that came in; its cells lie below block B. -/
def ActsAt (B : Nat) (w : World) (v : Value) (n : Nat) : Prop :=
  ∃ (a : Option Addr) (c : Nat), v = .slice a n c ∧ n ≤ c ∧ c ≤ 9223372036854775807 ∧ (0 < n → ∃ k o, a = some ⟨k, o, none⟩ ∧ k < B ∧ ∀ i, i < n → ∃ x, ActAt B w k (o + i * 5) x)

theorem good_fresh (R a f : Int) (hR : 0 ≤ R) (h0 : a ≤ f) (h1 : f ≤ a + 1073741825) : Good R a (DiskS.fresh R f) := by
  refine ⟨?_, rfl, fun i => ?_, h0, h1⟩
  · show ((0 : Nat) : Int) ≤ R; omega
  · match i with
    | 0 => exact fun _ => Nat.le_refl _
    | 1 => exact fun _ => Nat.le_refl _
    | 2 => exact fun _ => Nat.le_refl _
    | _ + 3 => exact fun _ => Nat.le_refl _

set_option maxHeartbeats 2000000 in
theorem room_law (v : Value) (n : Nat) (room : Int) (w : World) (hv : ActsAt w.heap.size w v n) :
    Calls Try.prog 4 #[v, .int .i64 room] w fun e w' => e = .returned (.bool true) ∧ Upd [] w w' := by
  obtain ⟨a, c, rfl, hnc, hc, hel⟩ := hv
  have HE := hd hel
  clear hel
  go_enter Try.func4, Try.ntmps4
  go_wp2_with fail
  refine (awake_any w).mono ?_
  rintro e w1 ⟨rfl, hu1⟩
  have HU1 := hd hu1
  clear hu1
  go_upto_region 3 with fail
  go_cut [1] (fun s1 wx => ∃ R : Int, 0 ≤ R ∧ R ≤ 300 ∧ s1 = .int .i64 R ∧ wx = w1)
  case first =>
    rcases (by omega : room < 0 ∨ room = 0 ∨ (0 < room ∧ room < 300) ∨ room = 300 ∨ 300 < room) with h | rfl | ⟨h, h'⟩ | rfl | h
    · go_wp2_with fail
      go_meet
      exact ⟨0, by omega, by omega, rfl, rfl⟩
    · go_wp2_with fail
      go_meet
      exact ⟨0, by omega, by omega, rfl, rfl⟩
    · go_wp2_with fail
      go_meet
      exact ⟨room, by omega, by omega, rfl, rfl⟩
    · go_wp2_with fail
      go_meet
      exact ⟨300, by omega, by omega, rfl, rfl⟩
    · go_wp2_with fail
      go_meet
      exact ⟨300, by omega, by omega, rfl, rfl⟩
  case rest =>
    obtain ⟨R, hR0, hR1, rfl, rfl⟩ := hcut
    go_wp2_with fail
    refine (new_any R _).mono ?_
    rintro e w2 ⟨b, rfl, hb, hu2, hd2⟩
    rw [show max R 0 = R by omega] at hd2
    have HB := hd hb
    have HB' := hd (show w.heap.size ≤ b by have := HU1.out.size; omega)
    have HU2 := hd hu2
    have HD2 := hd hd2
    clear hb hu2 hd2
    go_wp2_with fail
    refine (new_ref R _).mono ?_
    rw [show max R 0 = R by omega]
    rintro e w3 ⟨l3, rfl, hu3, hr3⟩
    obtain ⟨g3, cap3, rfl, hg3, hgl3, _, _, _⟩ := own_cases hr3 (by omega)
    have HD3 := hd (HD2.out.upd hu3 (by simp))
    have hlb := HD2.out.lt
    have HU3 := hd (HU2.out.trans hu3)
    have HR3 := hd hr3
    clear hu3 hr3
    go_wp2_with fail
    have hGD0 : Good R 0 ⟨⟨⟨#[]⟩, ⟨#[]⟩, false⟩, ⟨⟨#[]⟩, ⟨#[]⟩, false⟩, ⟨⟨#[]⟩, ⟨#[]⟩, false⟩, ⟨⟨#[]⟩, ⟨#[]⟩, false⟩, R, 0⟩ := good_fresh R 0 0 hR0 (by omega) (by omega)
    have hGx0 : Good R (-1) (DiskS.fresh R (-1)) := good_fresh R (-1) (-1) hR0 (by omega) (by omega)
    have HG := hd hGD0
    have HGx := hd hGx0
    clear hGD0 hGx0
    go_loopw [7] (fun i wr => ∃ (k : Nat) (D x : DiskS) (l : Value), k ≤ n ∧ i = .int .i64 k ∧ Good R 0 D ∧ Good R (-1) x ∧ Upd [] w wr ∧ DiskAt wr b D ∧ RefAt w.heap.size wr l x ∧ Blk wr w3.heap.size #[l, .int .i64 x.room, .int .i64 x.fail] 28) (fun i _ => n - (intOf i).toNat)
    case atStart =>
      refine ⟨0, _, DiskS.fresh R (-1), _, by omega, rfl, HG.out, HGx.out, ?_, HD3.out.alloc _, own_upd (L := []) (own_mono HR3.out ?_) ((Upd.refl _ _).alloc _) (fun _ _ => by simp), Blk.new _ _ _⟩
      · exact (HU1.out.trans HU3.out).alloc _
      · have := HU1.out.size
        have := HU2.out.size
        omega
    case round =>
      obtain ⟨k, D, x, l, hk, rfl, hGD, hGx, hu, hdd, hr, hbx⟩ := hrel
      obtain ⟨g, cap, rfl, hg, hgl, hcap, _, _⟩ := own_cases hr (by omega)
      have hgb := own_ne_blk hr hdd (by decide)
      have hgx := own_ne_blk hr hbx (by decide)
      have hnb : b ≠ w3.heap.size := by omega
      have hlbx := hbx.lt
      have hlb' := hdd.lt
      have hcb := hbx.cell
      have HU := hd hu
      have HD := hd hdd
      have HR := hd hr
      have HBX := hd hbx
      have HGD := hd hGD
      have HGX := hd hGx
      clear hu hdd hr hbx hGD hGx HG HGx
      by_cases hkn : k < n
      · by_cases hk40 : k < 40
        · obtain ⟨ka, oa, rfl, hka, hact⟩ := HE.out (by omega)
          obtain ⟨⟨kind, F, N, S, cv, cs⟩, m0, m1, m2, m3, m4, hS, hcs⟩ := hact k hkn
          have hold : ∀ o, wr.cell? ⟨ka, o, none⟩ = w.cell? ⟨ka, o, none⟩ := fun o => (HU.out.below (Nat.le_refl _) (by simp)).cell (p := ⟨ka, o, none⟩) hka
          have n0 := (hold _).trans m0
          have n1 := (hold _).trans m1
          have n2 := (hold _).trans m2
          have n3 := (hold _).trans m3
          have n4 := (hold _).trans m4
          simp only at n0 n1 n2 n3 n4 hS
          have HCS := hd (show IntsAt b wr cv cs from (hcs b HB'.out).upd HU.out (by simp))
          have e0 : wr.cell? ⟨w3.heap.size, 0, none⟩ = some (.slice (some ⟨g, 0, none⟩) 4 cap) := HBX.out.cell 0
          have e1 : wr.cell? ⟨w3.heap.size, 1, none⟩ = some (.int .i64 x.room) := HBX.out.cell 1
          have e2 : wr.cell? ⟨w3.heap.size, 2, none⟩ = some (.int .i64 x.fail) := HBX.out.cell 2
          have hR2 : R ≤ 1073741824 := by omega
          have hwr : w.heap.size ≤ wr.drew.heap.size := HU.out.size
          have hgb' : ∀ g', (Value.slice (some ⟨g, 0, none⟩) 4 cap).ownBlock = some g' → g' ≠ b := fun g' e => by simp [Value.ownBlock] at e; omega
          have HB5 := HB'.out
          clear hold m0 m1 m2 m3 m4 hcs hact hcb
          go_wp2_with fail
          go_region_with (first | (go_at_call 17; refine (do_any R D x (.slice (some ⟨g, 0, none⟩) 4 cap) cv kind F N S cs wr.drew b w.heap.size HD.out HR.out HGD.out HGX.out hR2 HCS.out hwr hgb' hS).mono ?_; rintro e w4 ⟨D', x', hG', hGx', _, l', ok, rfl, hu4, hd4, hr4⟩; obtain ⟨g4, cap4, rfl, hg4, hgl4, _, _, _⟩ := own_cases hr4 (by omega); have hbx4 := Blk.upd (show Blk wr.drew w3.heap.size _ _ from HBX.out) hu4 (by simpa using Ne.symm hnb); have f0 := hbx4.cell 0; have f1 := hbx4.cell 1; have f2 := hbx4.cell 2; have fz := hbx4.frozen; have hlx4 := hbx4.lt; have hne4 := own_ne_blk hr4 hbx4 (by decide); have HB4 := hd hbx4; have hlw4 : w.heap.size ≤ w4.heap.size := Nat.le_trans hwr hu4.size; have pold : ∀ o, w4.cell? ⟨ka, o, none⟩ = wr.cell? ⟨ka, o, none⟩ := fun o => World.cell?_of_block (w := wr.drew) (hu4.block ka (Nat.lt_of_lt_of_le hka hwr) (by simp; omega)); have p0 := (pold _).trans n0; have p1 := (pold _).trans n1; have p2 := (pold _).trans n2; have p3 := (pold _).trans n3; have p4 := (pold _).trans n4; clear pold p0 p1 p2 p3 p4; have HU4 := hd hu4; have HD4 := hd hd4; have HR4 := hd hr4; have HG4 := hd hG'; have HGx4 := hd hGx'; clear hu4 hd4 hr4 hG' hGx' hbx4))
          all_goals
            have hus := HG4.out.used
            have hur := HG4.out.room
            have HS4 := hd (HG4.out.small hR2)
            have HUR := hd hus
            clear hus hur f0 f1 f2
            go_wp2_with fail
            refine (used_any D' _ b (by repeat (first | with_reducible exact HD4.out | with_reducible refine Blk.alloc ?_ _ | with_reducible refine Blk.drew ?_ | with_reducible refine Blk.set_other ?_ (by first | (simp; done) | (simp; omega)) _ | exact HD4.out)) HS4.out).mono ?_
            rintro e w5 ⟨rfl, hu5⟩
            have hus := HUR.out
            have HU5 := hd hu5
            clear hu5
            go_wp2
            go_roundw
            case rel =>
              have hU45 : Upd [b, w3.heap.size] wr w5 := (((Upd.refl _ wr).drew.trans (HU4.out.mono (by simp))).trans (by repeat (first | with_reducible exact HU4.out | with_reducible exact Upd.refl _ _ | with_reducible refine Upd.alloc ?_ _ | with_reducible refine Upd.drew ?_ | with_reducible refine Upd.setCell ?_ (by first | (simp; done) | (simp; omega)) _))).trans (HU5.out.mono (by simp))
              have hx5 : Blk w5 w3.heap.size #[.slice (some ⟨g4, 0, none⟩) 4 cap4, .int .i64 x'.room, .int .i64 x'.fail] _ := (((HB4.out.set 0 _).set 1 _).set 2 _).upd HU5.out (by simp)
              refine ⟨k + 1, D', x', .slice (some ⟨g4, 0, none⟩) 4 cap4, by omega, by go_num, HG4.out, HGx4.out, HU.out.trans' hU45 ?_, ?_, ?_, hx5⟩
              · simp; omega
              · exact Blk.upd (by repeat (first | with_reducible exact HD4.out | with_reducible refine Blk.alloc ?_ _ | with_reducible refine Blk.drew ?_ | with_reducible refine Blk.set_other ?_ (by first | (simp; done) | (simp; omega)) _ | exact HD4.out)) HU5.out (by simp)
              · exact own_upd (L := []) (own_upd (L := [w3.heap.size]) HR4.out (by repeat (first | with_reducible exact HR4.out | with_reducible exact Upd.refl _ _ | with_reducible refine Upd.alloc ?_ _ | with_reducible refine Upd.drew ?_ | with_reducible refine Upd.setCell ?_ (by first | (simp; done) | (simp; omega)) _)) (by simpa [Value.ownBlock] using hne4)) HU5.out (fun _ _ => by simp)
            case measure => simp [intOf]; omega
        · go_wp2
          go_ret
          exact ⟨rfl, HU.out⟩
      · go_wp2
        go_ret
        exact ⟨rfl, HU.out⟩
end Go.Proofs.Ytjaoiaknglnomaa
