/-
  WalOpening (layer 13): for every list of calls, every failing call and every crash the law answers true: a crash in the midst of Open takes nothing. No condition.
-/
import Derived.Test.YtjaoiaknglnomaaWm23
import Derived.Deep.DeepCutAuto
import Derived.BigRegion
import Derived.OpenShut
import Derived.ShutString
import Derived.ChangeOld
/-
  The law WalOpening of layer 13, walked: it answers true. Condition: the two lists read as lists.
-/
set_option linter.unusedVariables false
set_option linter.unusedSimpArgs false
set_option maxRecDepth 100000
namespace Go.Proofs.Ytjaoiaknglnomaa
open Go.RowKit

/-- A log of which no call fails. -/
def OIn (B b kl kc kx a : Nat) (w : World) : Prop :=
  ∃ (D : DiskS) (g n : Nat) (L : List (List UInt8)) (k v : Nat) (O : List (List UInt8)) (had : Bool),
    DiskAt w b D ∧ D.fail = 0 ∧ LogAt w kl kc b (lgOf g n L) ∧ CellAt w kc b 2 v ∧ Live 270000 1048576 D g n L k v ∧ RunBlk B kx w L k O had ∧ Few (a + 6) L ∧ Few (a + 6) O ∧ g ≤ a ∧ v ≤ a
theorem ints_cut {B n c m : Nat} {a : Option Addr} {w : World} {cs : List Int} (h : IntsAt B w (.slice a n c) cs) (hm : m ≤ n) : IntsAt B w (.slice a m c) (cs.take m) := by
  obtain ⟨a', c', he, h2, h3, h4⟩ := h
  injection he with e1 e2 e3
  subst e1 e2 e3
  refine ⟨a, c, ?_, ?_, h3, fun hne => ?_⟩
  · rw [List.length_take, Nat.min_eq_left hm]
  · rw [List.length_take]; omega
  · obtain ⟨k, o, q1, q2, q3, q4⟩ := h4 (by intro e; rw [e] at hne; simp at hne)
    refine ⟨k, o, q1, q2, q3, fun i hi => ?_⟩
    rw [List.length_take] at hi
    have hi2 : i < cs.length := by omega
    rw [q4 i hi2]
    simp [List.getD, List.getElem?_take, show i < m by omega]
/-- Whatever a crash leaves, just this list is there. -/
theorem rest_safe {C : Nat} {R : Int} {d : DiskS} {g n : Nat} {X : List (List UInt8)} {v : Nat} (hc : Caps C R) (hs : ∀ t ∈ X, t.length ≤ 40) (h : Live C R d g n X X.length v) : Safe C R d g v (fun Y => Y = X) :=
  (base_safe hc (fun t ht => by have := hs t ht; omega) h).mono (fun Y hY => by
    obtain ⟨j, h1, h2, rfl⟩ := hY
    rw [show j = X.length by omega, List.take_length]) (Nat.le_refl _) (Nat.le_refl _)

set_option maxHeartbeats 4000000 in
theorem opening13_law (v0 v2 : Value) (n : Nat) (fail : Int) (cs : List Int) (w : World) (h0 : Acts13At w v0 n) (h2 : ∀ b, w.heap.size ≤ b → IntsAt b w v2 cs) :
    Calls Try.prog 12 #[v0, .int .i64 fail, v2] w fun e w' => e = .returned (.bool true) ∧ Upd [] w w' := by
  obtain ⟨a0, c0, rfl, hc0, hm0, he0⟩ := h0
  have hx2 := h2 w.heap.size (Nat.le_refl _)
  obtain ⟨a2, c2, rfl, hc2, hm2, -⟩ := hx2
  have HE0 := hd he0
  have HI := hd h2
  clear he0 h2
  obtain ⟨n2, hn2⟩ : ∃ n, n = cs.length := ⟨_, rfl⟩
  rw [← hn2] at HI hc2 ⊢
  have hn2' := hd hn2
  clear hn2
  go_enter Try.func12, Try.ntmps12
  go_wp2_with fail
  refine (wawake_any w).mono ?_
  rintro e w1 ⟨rfl, hu1⟩
  have HU1 := hd hu1
  clear hu1
  go_wp2_with fail
  refine (new_any 1048576 w1).mono ?_
  rintro e w3 ⟨b, rfl, hb, hu3, hd3⟩
  have hd3 : DiskAt w3 b (bareD 1048576) := hd3
  have hs0 := HU1.out.size
  have HB := hd (show w.heap.size ≤ b by omega)
  have HU3 := hd (HU1.out.trans hu3)
  have HD3 := hd hd3
  have hs3 := hu3.size
  have hl0 : ∀ t ∈ ([] : List (List UInt8)), t.length ≤ 262144 := by simp
  clear hu3 hb
  go_wp2_with fail
  refine (wopen_live big_caps (by decide) (live_bare 270000 1048576) ⟨by decide, by decide, by decide, hl0⟩ (by decide) b w3 HD3.out).mono ?_
  rintro e w4 ⟨⟨kl, kc, vl, rfl, hkl, hkc, hl4, hc4, hv4⟩, hu4, hd4⟩
  obtain ⟨a4, cap4, rfl, -⟩ := own_open hv4
  have hkl' : w.heap.size ≤ kl := by omega
  have hkc' : w.heap.size ≤ kc := by omega
  have HK := hd (And.intro hkl' hkc')
  have HU4 := hd (HU3.out.trans' hu4 (by intro i hi; have := HB.out; simp at hi; omega))
  have HD4 := hd hd4
  have HL4 := hd hl4
  have HC4 := hd hc4
  have hs4 := hu4.size
  clear hu4 hd4 hl4 hc4 hv4 hkl hkc hkl' hkc' hd3
  have hlen0 : ([] : List (List UInt8)).length = 0 := rfl
  rw [hlen0]
  have e0 : ∃ W kx, w4.heap.size = kx ∧ w4.alloc (.cells #[.slice none 0 0, .int .i64 0, .slice none 0 0, .bool false] 75) = W ∧ w.heap.size ≤ kx ∧ Upd [] w W ∧ OIn w.heap.size b kl kc kx 0 W :=
    ⟨_, _, rfl, rfl, by omega, HU4.out.alloc _, bareD 1048576, 0, 0, [], 0, 0, [], false, HD4.out.alloc _, rfl, HL4.out.alloc _, HC4.out.alloc _, live_bare 270000 1048576, ⟨_, _, Blk.new _ _ _, World.ownsRow_nil _ _ _ _, World.ownsRow_nil _ _ _ _⟩, Few.nil _, Few.nil _, by omega, by omega⟩
  go_upto_region 8 with fail
  obtain ⟨W5, kx, hkx, hW5, hkx', hu5, ho5⟩ := e0
  rw [hW5, hkx]
  have HKX := hd hkx'
  have HU5 := hd hu5
  have HO5 := hd ho5
  clear hW5 hkx hkx' hu5 ho5 HD4 HL4 HC4 HU4 HU3 HU1 HD3 hs0 hs3 hs4
  go_upto_block 0 with fail
  go_cut [] (fun wx => ∃ a : Nat, a ≤ 20 ∧ Upd [] w wx ∧ OIn w.heap.size b kl kc kx a wx)
  case first =>
    go_wp2_with fail
    go_loopw [10, 12] (fun s10 s12 wr => ∃ (a : Nat), s12 = .int .i64 a ∧ a ≤ 20 ∧ Upd [] w wr ∧ OIn w.heap.size b kl kc kx a wr) (fun _ s12 _ => 20 - (intOf s12).toNat)
    case atStart => exact ⟨0, rfl, by omega, HU5.out, HO5.out⟩
    case round =>
      clear HU5 HO5
      obtain ⟨a, rfl, ha, hu, ho⟩ := hrel
      by_cases hgo : a < n ∧ a < 20
      · obtain ⟨hn, h20⟩ := hgo
        obtain ⟨ka, oa, rfl, hka, hel⟩ := HE0.out (by omega)
        obtain ⟨kind, S, lv, tx, m0, m1, m2, hS, htx, hls⟩ := hel a hn
        have hold : ∀ {p v}, w.cell? ⟨ka, p, none⟩ = some v → wr.cell? ⟨ka, p, none⟩ = some v := fun h => (World.cell?_of_block (hu.block ka hka (by simp))).trans h
        have n0 := hold m0
        have n1 := hold m1
        have n2 := hold m2
        clear hel m0 m1 m2 hold
        obtain ⟨D, g, nn, L, k, v, O, had, hD, hz, hLg, hC, hlv, ⟨vl, vo, hbx, hvl, hvo⟩, hfL, hfO, hg, hv⟩ := ho
        have hsz := hu.size
        have HDO := hd (wdo_run hlv (by omega) (by omega) hfL (by omega) w.heap.size kl kc b O had vl vo kind S hS tx lv wr.drew hsz (own_upd hvl (Upd.refl [] wr).drew (by simp)) (own_upd hvo (Upd.refl [] wr).drew (by simp)) (hD.upd (Upd.refl [] wr).drew (by simp)) (hLg.upd (Upd.refl [] wr).drew (by simp)) (hC.upd (Upd.refl [] wr).drew (by simp)) (htx.upd (hu.trans (Upd.refl [] wr).drew)) hls)
        obtain ⟨al, cl, rfl, -⟩ := own_open hvl
        obtain ⟨ao, co, rfl, -⟩ := own_open hvo
        obtain ⟨av, cv, rfl, -⟩ := id htx
        have t1 := blk_ne hbx hD (by decide)
        have t2 := blk_ne hbx hLg (by decide)
        have t3 := blk_ne hbx hC (by decide)
        have HTR := hd (And.intro t1 (And.intro t2 t3))
        have HU := hd hu
        have HBX := hd hbx
        have HFF := hd (And.intro hfL hfO)
        have HZ := hd hz
        have HGV := hd (And.intro hg hv)
        have hxc := hbx.cell
        have h20' : (a : Int) < 20 := by omega
        have hn' : (a : Int) < (n : Int) := by omega
        clear hu hD hLg hC hlv hbx hvl hvo hfL hfO htx hls t1 t2 t3 hz hg hv
        go_wp2_with fail
        go_region_with (first
          | (go_at_call 39; refine HDO.out.mono ?_; rintro x w4 ⟨al1, ao1, cl1, co1, e1, L1, k1, O1, had1, rfl, hu4, hl4, ho4, hr4⟩; have hup4 : Upd [b, kl, kc] wr w4 := ((Upd.refl [b, kl, kc] wr).drew).trans hu4; have hbx4 := HBX.out.upd hup4 (by obtain ⟨h1, h2, h3⟩ := HTR.out; simp only [List.mem_cons, List.not_mem_nil, or_false, not_or]; exact ⟨h1, h2, h3⟩); have hxc4 := hbx4.cell; have hxz4 := hbx4.frozen)
          | fail "no arm")
        all_goals
          have hB := HB.out
          have hK := HK.out
          have hKX := HKX.out
          obtain ⟨W5, e5, u5, b5⟩ := set4 hbx4 (.slice al1 L1.length cl1) (.int .i64 k1) (.slice ao1 O1.length co1) (.bool had1)
          have hrow : ∀ vv X, StrRow w.heap.size w4 vv X → StrRow w.heap.size W5 vv X := fun vv X h => own_upd h u5 (fun i hi hm => by
            simp only [List.mem_cons, List.not_mem_nil, or_false] at hm
            subst hm
            exact own_ne_any h hbx4 (by decide) _ hi rfl)
          obtain ⟨t1, t2, t3⟩ := HTR.out
          have HRUN := hd (show RunBlk w.heap.size kx W5 L1 k1 O1 had1 from ⟨_, _, b5, hrow _ _ hl4, hrow _ _ ho4⟩)
          have HR5 := hd (hr4.upd u5 (by simpa using Ne.symm t1) (by simpa using Ne.symm t2) (by simpa using Ne.symm t3))
          have HU6 := hd ((HU.out.trans' hup4 (by intro i hi; simp only [List.mem_cons, List.not_mem_nil, or_false] at hi; omega)).trans' u5 (by intro i hi; simp only [List.mem_cons, List.not_mem_nil, or_false] at hi; omega))
          have HE5 := hd e5
          clear hl4 ho4 hr4 hup4 hbx4 u5 b5 hrow t1 t2 t3 HDO HBX n0 n1 n2 hu4 hxc hxc4 hxz4 e5 HU HTR
          obtain ⟨D', hf', hD', hnear, hr'⟩ := HR5.out
          have hnf := hnear.few HFF.out.1 HFF.out.2 (by omega)
          rcases hr' with ⟨rfl, g', n', v', hL', hC', hlv', hg', hv', -⟩ | ⟨hz', _⟩
          rotate_left
          · exact absurd HZ.out hz'
          have hz' : D'.fail = 0 := by have h1 := base_fail hlv'; have h2 := HZ.out; omega
          have HI6 := hd (show OIn w.heap.size b kl kc kx (a + 1) W5 from ⟨D', g', n', L1, k1, v', O1, had1, hD', hz', hL', hC', hlv', HRUN.out, hnf.1.mono (by omega), hnf.2.mono (by omega), by have := HGV.out; omega, by have := HGV.out; omega⟩)
          clear hL' hC' hlv' hD' hnear hf' hnf hz' hg' hv' HR5 HRUN
          rw [HE5.out]
          clear HE5
          go_wp2_with fail
          go_roundw
          case rel => exact ⟨a + 1, by go_num, by omega, HU6.out, HI6.out⟩
          case measure => simp [intOf]; omega
      · have HU := hd hu
        have HO := hd ho
        clear hu ho
        by_cases hn : a < n
        · have hn' : (a : Int) < (n : Int) := by omega
          have h20 : ¬ (a : Int) < 20 := by omega
          go_wp2_with fail
          go_meet
          case rel => exact ⟨a, ha, HU.out, HO.out⟩
        · have hn' : ¬ (a : Int) < (n : Int) := by omega
          go_wp2_with fail
          go_meet
          case rel => exact ⟨a, ha, HU.out, HO.out⟩
  case rest =>
    clear HU5 HO5 HE0
    obtain ⟨a, ha, hu, ⟨D, g, nn, L, k, v, O, had, hD, hz, hLg, hC, hlv, hrun, hfL, hfO, hg, hv⟩⟩ := hcut
    have hg6 : g < 18446744073709551616 := by omega
    have hfit : (encL g L).length + 4 ≤ 270000 := by have := small_enc g L hfL.2; have := hfL.1; omega
    obtain ⟨d1, hd1, hB1, hz1⟩ := torn_live big_caps hlv hz hfit
    have hl6 : ∀ t ∈ L, t.length ≤ 262144 := fun t ht => by have := hfL.2 t ht; omega
    have hfine := (base_safe big_caps hl6 hlv).1
    have hand := u64_and1 g hg6
    have hmod : g % 2 < 2 := Nat.mod_lt _ (by omega)
    have hget : (D.get ((g % 2 : Nat) : Int).toNat).now.size + (txt [116, 111, 114, 110]).size ≤ 1099511627776 := by
      rw [Int.toNat_natCast, live_now hlv]
      have : (txt [116, 111, 114, 110]).size = 4 := rfl
      omega
    have hap := append_any D ((g % 2 : Nat) : Int) (txt [116, 111, 114, 110]) wc b hD hfine hget
    rw [hd1] at hap
    simp only at hap
    have a1 : txt [116, 111, 114, 110] = ⟨#[116, 111, 114, 110]⟩ := rfl
    rw [a1] at hap
    have hgen := wgen_any kl kc b (lgOf g nn L) wc hLg
    rw [show (lgOf g nn L).gen = g from rfl] at hgen
    clear hd1 hget a1 hLg hC
    generalize g % 2 = gm at *
    have HAP := hd hap
    have HGEN := hd hgen
    have HAND := hd (And.intro hand hmod)
    have HSF := hd ((base_safe big_caps hl6 hB1).mono (B := MayL L k O had) (fun X hX => by obtain ⟨j, q1, q2, rfl⟩ := hX; exact may_take had q1 q2) (Nat.le_refl _) (Nat.le_refl _))
    have HU := hd hu
    have HD := hd hD
    have HRUN := hd hrun
    have HFF := hd (And.intro hfL hfO)
    have HKK := hd (show k ≤ 1000 by have := base_k hlv; have := hfL.1; omega)
    have HGV := hd (And.intro hg hv)
    clear hap hgen hu hD hrun hfL hfO hlv hB1 hfine hfit hl6 hz hz1 hand hmod hg hv hg6
    go_upto_region 14 with fail
    go_cut [58] (fun s58 wx => ∃ bb : Bool, s58 = .bool bb ∧ (bb = true → 8 < n2) ∧ wx = wc)
    case first =>
      by_cases h8 : 8 < n2
      · have h8' : 8 < (n2 : Int) := by omega
        go_wp2_with fail
        go_meet
        case rel => exact ⟨_, rfl, fun _ => h8, rfl⟩
      · have h8' : ¬ 8 < (n2 : Int) := by omega
        go_wp2_with fail
        go_meet
        case rel => exact ⟨false, rfl, fun h => (by cases h), rfl⟩
    case rest =>
      obtain ⟨bb, rfl, hbb, rfl⟩ := hcut
      go_upto_if 58 with fail
      go_cut [2] (fun s2 wx => ∃ (ac : Option Addr) (c16 : Nat) (cs' : List Int), s2 = .slice ac cs'.length c16 ∧ (∀ b, w.heap.size ≤ b → IntsAt b w s2 cs') ∧ wx = wc)
      case first =>
        rcases bb with _ | _
        · go_wp2_with fail
          go_meet
          case rel => exact ⟨a2, c2, cs, by rw [← hn2'.out], HI.out, rfl⟩
        · have h8 := hbb rfl
          have hc8 : 8 ≤ c2 := by omega
          go_wp2_with fail
          go_meet
          case rel => exact ⟨a2, c2, cs.take 8, by rw [List.length_take, ← hn2'.out, Nat.min_eq_left (by omega)], fun b hb => ints_cut (HI.out b hb) (by omega), rfl⟩
      case rest =>
        obtain ⟨ac, c16, cs', rfl, hcs, rfl⟩ := hcut
        have HCS := hd hcs
        obtain ⟨hand, hmod⟩ := HAND.out
        clear hcs hbb
        go_wp2_with fail
        refine HGEN.out.mono ?_
        rintro e w5 ⟨rfl, rfl⟩
        go_wp2_with fail
        refine HAP.out.mono ?_
        rintro e w6 ⟨rfl, hu6, hd6⟩
        have hB := HB.out
        obtain ⟨hf1, hok1, hall1⟩ := HSF.out
        have HU6 := hd (HU.out.trans' hu6 (by intro i hi; simp only [List.mem_cons, List.not_mem_nil, or_false] at hi; omega))
        have HD6 := hd hd6
        have HRUN6 := hd (HRUN.out.upd hu6 (by simpa using HRUN.out.ne HD.out (by decide)) (alone HD.out))
        have HCR := hd (crash_any d1 _ cs' w6 b hd6 hf1.small hok1 ((HCS.out b HB.out).upd HU6.out (by simp)))
        obtain ⟨g2, n2', X, J2, k2, v2, hR2, hz2, hA2, hg2, hv2⟩ := hall1 cs'
        have HR2 := hd hR2
        have HZ2 := hd hz2
        have HMAY := hd hA2
        have HG2 := hd (show g2 ≤ 20 ∧ v2 ≤ 20 by have := HGV.out; omega)
        have HFX := hd (Few.may HFF.out.1 HFF.out.2 hA2)
        generalize d1.crashIt cs' = D2 at *
        clear hu6 hd6 hf1 hok1 hall1 hR2 hz2 hA2 hg2 hv2 HU HD HRUN HAP HGEN HSF hand hmod HAND HGV
        go_wp2_with fail
        refine HCR.out.mono ?_
        rintro e w7 ⟨rfl, hu7, hd7⟩
        have HU7 := hd (HU6.out.trans' hu7 (by intro i hi; simp only [List.mem_cons, List.not_mem_nil, or_false] at hi; omega))
        have HD7 := hd hd7
        have HRUN7 := hd (HRUN6.out.upd hu7 (by simpa using HRUN6.out.ne HD6.out (by decide)) (alone HD6.out))
        clear hu7 hd7 HU6 HD6 HRUN6 HCR
        go_upto_region 18 with fail
        go_cut [] (fun wx => ∃ F : Int, Upd [] w wx ∧ DiskAt wx b (D2.till F) ∧ 0 ≤ F ∧ F ≤ 100 ∧ RunBlk w.heap.size kx wx L k O had)
        case first =>
          have key : ∀ (q : Int) (W : World), 0 ≤ q → q ≤ 12 → Upd [b] w7 W → DiskAt W b { D2 with fail := max (min q 1073741824) (-1) + 1 } → ∃ F : Int, Upd [] w W ∧ DiskAt W b (D2.till F) ∧ 0 ≤ F ∧ F ≤ 100 ∧ RunBlk w.heap.size kx W L k O had := fun q W h0 h1 hu hD => by
            exact ⟨_, HU7.out.trans' hu (by intro i hi; simp only [List.mem_cons, List.not_mem_nil, or_false] at hi; omega), hD, by omega, by omega, HRUN7.out.upd hu (by simpa using HRUN7.out.ne HD7.out (by decide)) (alone HD7.out)⟩
          have HKEY := hd key
          clear key
          rcases (by omega : fail < 0 ∨ fail = 0 ∨ (0 < fail ∧ fail < 12) ∨ fail = 12 ∨ 12 < fail) with h | rfl | ⟨h, h'⟩ | rfl | h
          · go_wp2_with fail
            refine (fail_any D2 0 w7 b HD7.out).mono ?_
            rintro e w4 ⟨rfl, hu4, hd4⟩
            go_wp2_with fail
            go_meet
            case rel => exact HKEY.out 0 w4 (by decide) (by decide) hu4 hd4
          · go_wp2_with fail
            refine (fail_any D2 0 w7 b HD7.out).mono ?_
            rintro e w4 ⟨rfl, hu4, hd4⟩
            go_wp2_with fail
            go_meet
            case rel => exact HKEY.out 0 w4 (by decide) (by decide) hu4 hd4
          · go_wp2_with fail
            refine (fail_any D2 fail w7 b HD7.out).mono ?_
            rintro e w4 ⟨rfl, hu4, hd4⟩
            go_wp2_with fail
            go_meet
            case rel => exact HKEY.out fail w4 (by omega) (by omega) hu4 hd4
          · go_wp2_with fail
            refine (fail_any D2 12 w7 b HD7.out).mono ?_
            rintro e w4 ⟨rfl, hu4, hd4⟩
            go_wp2_with fail
            go_meet
            case rel => exact HKEY.out 12 w4 (by decide) (by decide) hu4 hd4
          · go_wp2_with fail
            refine (fail_any D2 12 w7 b HD7.out).mono ?_
            rintro e w4 ⟨rfl, hu4, hd4⟩
            go_wp2_with fail
            go_meet
            case rel => exact HKEY.out 12 w4 (by decide) (by decide) hu4 hd4
        case rest =>
          obtain ⟨F, hu8, hd8, hF0, hF1, hrun8⟩ := hcut
          have HU8 := hd hu8
          have HD8 := hd hd8
          have HRUN8 := hd hrun8
          have HOP := hd (wopen_rest big_caps (by decide) (rest_till HR2.out F hF0 (by omega)) (few_bnd HFX.out (by omega) (by have := HG2.out; omega) (by have := HG2.out; omega)) (few_fit HFX.out (g2 + 1) (by omega)) b _ hd8)
          clear hu8 hd8 hrun8 HU7 HD7 HRUN7
          go_wp2_with fail
          refine HOP.out.mono ?_
          rintro e w9 ⟨d9, hf9, hu9, hd9, hr9⟩
          rcases hr9 with ⟨g9, n9, v9, hg9, hv9, ⟨kl9, kc9, vl9, rfl, hkl9, hkc9, -, -, hv9'⟩, hlv9⟩ | ⟨hz9, rfl, hsf9⟩
          · have HSF := hd ((rest_safe big_caps HFX.out.2 hlv9).mono (fun _ h => h) (show g9 ≤ 1000 by have := HG2.out; omega) (show v9 ≤ 1000 by have := HG2.out; omega))
            have hv99 := own_mono hv9' HU8.out.size
            have HV9 := hd hv99
            obtain ⟨ax, cx, rfl, -⟩ := own_open hv99
            clear hlv9 hg9 hv9 hv9' hv99 hkl9 hkc9
            have hB := HB.out
            have hsz := HU8.out.size
            have HU9 := hd (HU8.out.trans' hu9 (by intro i hi; simp only [List.mem_cons, List.not_mem_nil, or_false] at hi; omega))
            have HD9 := hd hd9
            have HRUN9 := hd (HRUN8.out.upd hu9 (by simpa using HRUN8.out.ne HD8.out (by decide)) (alone HD8.out))
            clear hu9 hd9 HU8 HD8 HRUN8 HOP
            obtain ⟨vl0, vo0, hbx, hvl0, hvo0⟩ := HRUN9.out
            obtain ⟨al0, cl0, rfl, -⟩ := own_open hvl0
            obtain ⟨ao0, co0, rfl, -⟩ := own_open hvo0
            have HMY := hd (wmay_any L O X k had _ _ _ w.heap.size w.heap.size w.heap.size w9 hvl0 hvo0 HV9.out (by have := HKK.out; omega) HMAY.out)
            have hxc := hbx.cell
            clear hvl0 hvo0 hbx
            go_wp2_with fail
            refine HMY.out.mono ?_
            rintro e w10 ⟨rfl, hu10⟩
            have HU10 := hd (HU9.out.trans hu10)
            have HD10 := hd (HD9.out.upd hu10 (by simp))
            have HRUN10 := hd (HRUN9.out.upd hu10 (by simp) (fun _ _ _ _ _ => by simp))
            have HV10 := hd (own_upd HV9.out hu10 (by simp))
            clear hu10 hxc HMY HU9 HD9 HRUN9 HV9
            obtain ⟨hf1, hok1, hall1⟩ := HSF.out
            have HCR := hd (crash_any d9 _ cs' w10 b HD10.out hf1.small hok1 ((HCS.out b HB.out).upd HU10.out (by simp)))
            obtain ⟨g3, n3, X3, J3, k3, v3, hR3, hz3, hA3, hg3, hv3⟩ := hall1 cs'
            subst hA3
            have HZ3 := hd hz3
            have HOP := hd (fun W h => wopen_rest big_caps (by decide) hR3 (few_bnd HFX.out (by omega) (by have := HG2.out; omega) (by have := HG2.out; omega)) (few_fit HFX.out (g3 + 1) (by omega)) b W h)
            generalize d9.crashIt cs' = D3 at *
            clear hf1 hok1 hall1 hR3 hz3 hg3 hv3 HSF
            go_wp2_with fail
            refine HCR.out.mono ?_
            rintro e w11 ⟨rfl, hu11, hd11⟩
            have HU11 := hd (HU10.out.trans' hu11 (by intro i hi; simp only [List.mem_cons, List.not_mem_nil, or_false] at hi; omega))
            have HD11 := hd hd11
            have HRUN11 := hd (HRUN10.out.upd hu11 (by simpa using HRUN10.out.ne HD10.out (by decide)) (alone HD10.out))
            have HV11 := hd (own_upd HV10.out hu11 (alone HD10.out _ _ HV10.out))
            clear hu11 hd11 HCR HU10 HD10 HRUN10 HV10
            go_wp2_with fail
            refine (HOP.out _ HD11.out).mono ?_
            rintro e w12 ⟨d12, hf12, hu12, hd12, hr12⟩
            rcases hr12 with ⟨g12, n12, v12, hg12, hv12, ⟨kl2, kc2, vl2, rfl, hkl2, hkc2, -, -, hv2'⟩, hlv12⟩ | ⟨hz', _⟩
            rotate_left
            · exact absurd HZ3.out hz'
            have hsz11 := HU11.out.size
            have HU12 := hd (HU11.out.trans' hu12 (by intro i hi; simp only [List.mem_cons, List.not_mem_nil, or_false] at hi; omega))
            have HRUN12 := hd (HRUN11.out.upd hu12 (by simpa using HRUN11.out.ne HD11.out (by decide)) (alone HD11.out))
            have HV12 := hd (own_mono hv2' hsz11)
            obtain ⟨a12, c12, rfl, -⟩ := own_open hv2'
            have HV9 := hd (own_upd HV11.out hu12 (alone HD11.out _ _ HV11.out))
            clear hu12 hd12 hf12 hlv12 hv2' hg12 hv12 hkl2 hkc2 HU11 HD11 HRUN11 HOP HZ3
            obtain ⟨vl0, vo0, hbx, hvl0, hvo0⟩ := HRUN12.out
            obtain ⟨al0, cl0, rfl, -⟩ := own_open hvl0
            obtain ⟨ao0, co0, rfl, -⟩ := own_open hvo0
            have HMY := hd (wmay_any L O X3 k had _ _ _ w.heap.size w.heap.size w.heap.size w12 hvl0 hvo0 HV12.out (by have := HKK.out; omega) HMAY.out)
            have hxc := hbx.cell
            clear hvl0 hvo0 hbx
            have HSM := hd (fun W (hu : Upd [] w12 W) => wsame_any X3 X3 (.slice a12 X3.length c12) (.slice ax X3.length cx) W ((row_strs HV12.out).upd hu) ((row_strs HV9.out).upd hu))
            have HDE := hd (show decide (X3 = X3) = true by simp)
            rw [HDE.out] at HSM
            go_wp2_with fail
            refine HMY.out.mono ?_
            rintro e w13 ⟨rfl, hu13⟩
            have HU13 := hd (HU12.out.trans hu13)
            have HS13 := hd (HSM.out _ hu13)
            clear hxc hu13 HMY HSM
            go_wp2_with fail
            refine HS13.out.mono ?_
            rintro e w14 ⟨rfl, hu14⟩
            have HU14 := hd (HU13.out.trans hu14)
            clear hu14
            go_wp2_with fail
            go_ret
            exact ⟨rfl, HU14.out⟩
          · have HSF := hd (hsf9.mono (fun _ h => h) (show g2 + 1 ≤ 1000 by have := HG2.out; omega) (show v2 + 1 ≤ 1000 by have := HG2.out; omega))
            clear hsf9 hz9
            have hB := HB.out
            have hsz := HU8.out.size
            have HU9 := hd (HU8.out.trans' hu9 (by intro i hi; simp only [List.mem_cons, List.not_mem_nil, or_false] at hi; omega))
            have HD9 := hd hd9
            have HRUN9 := hd (HRUN8.out.upd hu9 (by simpa using HRUN8.out.ne HD8.out (by decide)) (alone HD8.out))
            clear hu9 hd9 HU8 HD8 HRUN8 HOP
            go_upto_region 22 with fail
            obtain ⟨hf1, hok1, hall1⟩ := HSF.out
            have HCR := hd (crash_any d9 _ cs' w9 b HD9.out hf1.small hok1 ((HCS.out b HB.out).upd HU9.out (by simp)))
            obtain ⟨g3, n3, X3, J3, k3, v3, hR3, hz3, hA3, hg3, hv3⟩ := hall1 cs'
            subst hA3
            have HZ3 := hd hz3
            have HOP := hd (fun W h => wopen_rest big_caps (by decide) hR3 (few_bnd HFX.out (by omega) (by have := HG2.out; omega) (by have := HG2.out; omega)) (few_fit HFX.out (g3 + 1) (by omega)) b W h)
            generalize d9.crashIt cs' = D3 at *
            clear hf1 hok1 hall1 hR3 hz3 hg3 hv3 HSF
            go_wp2_with fail
            refine HCR.out.mono ?_
            rintro e w11 ⟨rfl, hu11, hd11⟩
            have HU11 := hd (HU9.out.trans' hu11 (by intro i hi; simp only [List.mem_cons, List.not_mem_nil, or_false] at hi; omega))
            have HD11 := hd hd11
            have HRUN11 := hd (HRUN9.out.upd hu11 (by simpa using HRUN9.out.ne HD9.out (by decide)) (alone HD9.out))
            clear hu11 hd11 HCR HU9 HD9 HRUN9
            go_wp2_with fail
            refine (HOP.out _ HD11.out).mono ?_
            rintro e w12 ⟨d12, hf12, hu12, hd12, hr12⟩
            rcases hr12 with ⟨g12, n12, v12, hg12, hv12, ⟨kl2, kc2, vl2, rfl, hkl2, hkc2, -, -, hv2'⟩, hlv12⟩ | ⟨hz', _⟩
            rotate_left
            · exact absurd HZ3.out hz'
            have hsz11 := HU11.out.size
            have HU12 := hd (HU11.out.trans' hu12 (by intro i hi; simp only [List.mem_cons, List.not_mem_nil, or_false] at hi; omega))
            have HRUN12 := hd (HRUN11.out.upd hu12 (by simpa using HRUN11.out.ne HD11.out (by decide)) (alone HD11.out))
            have HV12 := hd (own_mono hv2' hsz11)
            obtain ⟨a12, c12, rfl, -⟩ := own_open hv2'
            clear hu12 hd12 hf12 hlv12 hv2' hg12 hv12 hkl2 hkc2 HU11 HD11 HRUN11 HOP HZ3
            obtain ⟨vl0, vo0, hbx, hvl0, hvo0⟩ := HRUN12.out
            obtain ⟨al0, cl0, rfl, -⟩ := own_open hvl0
            obtain ⟨ao0, co0, rfl, -⟩ := own_open hvo0
            have HMY := hd (wmay_any L O X3 k had _ _ _ w.heap.size w.heap.size w.heap.size w12 hvl0 hvo0 HV12.out (by have := HKK.out; omega) HMAY.out)
            have hxc := hbx.cell
            clear hvl0 hvo0 hbx
            go_wp2_with fail
            refine HMY.out.mono ?_
            rintro e w13 ⟨rfl, hu13⟩
            have HU13 := hd (HU12.out.trans hu13)
            clear hxc hu13 HMY
            go_wp2_with fail
            go_ret
            exact ⟨rfl, HU13.out⟩
end Go.Proofs.Ytjaoiaknglnomaa

namespace Go.Proofs.Ytjaoiaknglnomaa.walOpening
open Go.ChangeShapes Go.WideShapes Go.ChangeAt Go.RowKit Go.Deep
set_option linter.unusedVariables false
set_option linter.unusedSimpArgs false

theorem own : ownKnob Try.prog.godebug = none := by kernel_rfl
theorem laidOut : laidOutB Try.prog = true := by kernel_rfl

set_option maxRecDepth 100000 in
theorem lifted (os : Os) (started : os.Started) (H : Type) (enc : TypeId × Value → H) :
    ReturnsInHanded {} Try.checked os 12 .any (Rows.walOpeningSpec.pre6 enc Try.prog Try.f12 Rows.walOpeningRow.domain false) (Rows.walOpeningSpec.post enc Try.prog Try.f12 false true false false) := by
  refine returnsInHanded_of_change (C := Try.checked) own started (by kernel_rfl) Try.func12
    (ChangeSpec.witness6 (enc := enc) (C := Try.checked) false ⟨#[], #[.slice none 0 0, .int .i64 0, .slice none 0 0], []⟩ 8 (by kernel_rfl) (by kernel_rfl) (by kernel_rfl) (by kernel_rfl)) ?_
  intro W base args ds gs before hval0 hW hcnd _
  have hval : ∀ (j : Nat) t v, Try.f12.params[j]? = some t → args[j]? = some v → Value.okWide Try.prog W .any base t v := hval0
  have hW' := hW
  obtain ⟨p, q, hA0, hV, rfl, hfz, hnd⟩ := hW
  have hA : DataW.TrodAll enc Try.prog W 0 (fun _ => true) true Try.f12.params.toList args.toList ds p := hA0
  rw [Try.params12] at hA hval
  obtain ⟨v0, vs0, d0, ds0, p0, q0, hargs, rfl, rfl, h0, r0⟩ := trodAll_cons hA
  obtain ⟨v1, vs1, d1, ds1, p1, q1, rfl, rfl, rfl, h1, r1⟩ := trodAll_cons r0
  obtain ⟨v2, vs2, d2, ds2, p2, q2, rfl, rfl, rfl, h2, r2⟩ := trodAll_cons r1
  obtain ⟨rfl, rfl, rfl⟩ := trodAll_nil r2
  obtain rfl : args = #[v0, v1, v2] := by cases args; simp_all
  obtain ⟨rfl, rfl⟩ := trodVars_none hV
  obtain ⟨a0, len0, cap0, rfl⟩ := okWide_slice Try.underlying72 (hval 0 72 v0 rfl rfl)
  obtain ⟨a2, len2, cap2, rfl⟩ := okWide_slice Try.underlying32 (hval 2 32 v2 rfl rfl)
  obtain ⟨z1, rfl, _⟩ := okWide_int Try.underlying3 (hval 1 3 v1 rfl rfl)
  have k0 := h0
  have k1 := h1
  have k2 := h2
  have lt0 : ∀ x ∈ p0, x.block < W.heap.size := by obtain ⟨m, hm⟩ := k0; exact DataW.trod_lt m _ _ _ hm
  have lt1 : ∀ x ∈ p1, x.block < W.heap.size := by obtain ⟨m, hm⟩ := k1; exact DataW.trod_lt m _ _ _ hm
  have lt2 : ∀ x ∈ p2, x.block < W.heap.size := by obtain ⟨m, hm⟩ := k2; exact DataW.trod_lt m _ _ _ hm
  obtain ⟨n, hs1⟩ : ∃ n, Acts13At W (.slice a0 len0 cap0) n := by
    obtain ⟨fuel, hf⟩ := h0
    exact acts13_at hf
  obtain ⟨cs, hcs⟩ : ∃ cs, ∀ b, W.heap.size ≤ b → IntsAt b W (.slice a2 len2 cap2) cs := by
    obtain ⟨fuel, hf⟩ := h2
    exact ints_at Try.underlying32 Try.underlying3 (by kernel_rfl) hf
  clear hA0 hval0
  refine (opening13_law _ _ n z1 cs W hs1 hcs).mono fun e W' ⟨he, hu⟩ => ?_
  have bel : Below W.heap.size W W' := hu.below (Nat.le_refl _) (by simp)
  subst he
  exact ⟨_, rfl, _, _, _, [], _, [], hW', trodAll_mk1 (shut_bool Try.underlying4 _), (trodAll_cons_mk (Below.trod laidOut (by kernel_rfl) (of_decide_eq_true (by kernel_rfl)) k0 bel lt0) (trodAll_cons_mk (Below.trod laidOut (by kernel_rfl) (of_decide_eq_true (by kernel_rfl)) k1 bel lt1) (trodAll_cons_mk (Below.trod laidOut (by kernel_rfl) (of_decide_eq_true (by kernel_rfl)) k2 bel lt2) trodAll_mk0))), rfl, bel.frame _, fun h => by cases h⟩

theorem over : Rows.walOpeningRow.holds Try.pinned (OpenSpec.ofChange Rows.walOpeningSpec) :=
  OpenClaim.holds_of_wide 12 Try.f12 rfl rfl rfl rfl rfl rfl rfl ⟨rfl, rfl, rfl, rfl, rfl⟩ rfl rfl rfl rfl rfl (by kernel_rfl) Try.func12 (by kernel_rfl)
    (of_decide_eq_true (by kernel_rfl)) (by unfold Func.isWrapper; first | (rw [if_pos (by decide +kernel)]; kernel_rfl) | (rw [if_neg (by decide +kernel)]; exact ⟨rfl, rfl⟩))
    (fun os started H enc _ => lifted os started H enc)

/-- The statement. -/
theorem proved : Rows.WalOpeningSaid := over
end Go.Proofs.Ytjaoiaknglnomaa.walOpening
