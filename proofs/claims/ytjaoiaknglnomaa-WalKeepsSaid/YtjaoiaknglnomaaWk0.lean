/-
  WalKeeps (layer 13): for every list of calls, every failing call and every crash the law answers true: over several lives the synced records are there, and first ones of the others. No condition.
-/
import Derived.Test.YtjaoiaknglnomaaWm23
import Derived.Deep.DeepCutAuto
import Derived.BigRegion
import Derived.OpenShut
import Derived.ShutString
import Derived.ChangeOld
/-
  The law WalKeeps of layer 13, walked: it answers true. Condition: the two lists read as lists.
-/
set_option linter.unusedVariables false
set_option linter.unusedSimpArgs false
set_option maxRecDepth 100000
namespace Go.Proofs.Ytjaoiaknglnomaa
open Go.RowKit

/-- A list of lists of whole numbers. -/
def ChoAt (w : World) (v : Value) (n : Nat) : Prop :=
  ∃ (a : Option Addr) (c : Nat), v = .slice a n c ∧ n ≤ c ∧ c ≤ 9223372036854775807 ∧ (0 < n → ∃ k o, a = some ⟨k, o, none⟩ ∧ k < w.heap.size ∧ ∀ t, t < n → ∃ (u : Value) (cs : List Int), w.cell? ⟨k, o + t, none⟩ = some u ∧ ∀ b, w.heap.size ≤ b → IntsAt b w u cs)
/-- What stands between two lives. -/
def KOut (B b kx l a : Nat) (w : World) : Prop :=
  ∃ (D : DiskS) (g n : Nat) (X : List (List UInt8)) (J : List UInt8) (k v : Nat) (L : List (List UInt8)) (kk : Nat) (O : List (List UInt8)) (had : Bool),
    DiskAt w b D ∧ Rest 270000 1048576 D g n X J k v ∧ D.fail = 0 ∧ RunBlk B kx w L kk O had ∧ MayL L kk O had X ∧ Few (a + 6) L ∧ Few (a + 6) O ∧ kk ≤ 1000 ∧ g ≤ a + l ∧ v ≤ a + 2 * l
/-- .. within a life. -/
def KIn (B b kl kc kx l a : Nat) (w : World) : Prop :=
  ∃ (D : DiskS) (g n : Nat) (L : List (List UInt8)) (k v : Nat) (O : List (List UInt8)) (had : Bool),
    DiskAt w b D ∧ LogAt w kl kc b (lgOf g n L) ∧ CellAt w kc b 2 v ∧ Live 270000 1048576 D g n L k v ∧ RunBlk B kx w L k O had ∧ Few (a + 6) L ∧ Few (a + 6) O ∧ g ≤ a + l + 1 ∧ v ≤ a + 2 * l + 2
/-- .. at a life's end. -/
def KEnd (B b kx l a : Nat) (w : World) : Prop :=
  ∃ (D : DiskS) (L : List (List UInt8)) (k : Nat) (O : List (List UInt8)) (had : Bool),
    DiskAt w b D ∧ Safe 270000 1048576 D (a + l + 1) (a + 2 * l + 2) (MayL L k O had) ∧ RunBlk B kx w L k O had ∧ Few (a + 6) L ∧ Few (a + 6) O ∧ k ≤ 1000
theorem KIn.end_ {B b kl kc kx l a : Nat} {w : World} (h : KIn B b kl kc kx l a w) (ha : a ≤ 100) : KEnd B b kx l a w := by
  obtain ⟨D, g, n, L, k, v, O, had, h1, h2, h3, h4, h5, h6, h7, h8, h9⟩ := h
  exact ⟨D, L, k, O, had, h1, (live_safe big_caps h6.2 h4 O had).mono (fun _ h => h) h8 h9, h5, h6, h7, by have := base_k h4; have := h6.1; omega⟩
set_option maxHeartbeats 4000000 in
theorem keeps13_law (v0 v2 : Value) (n m : Nat) (fail : Int) (w : World) (h0 : Acts13At w v0 n) (h2 : ChoAt w v2 m) :
    Calls Try.prog 11 #[v0, .int .i64 fail, v2] w fun e w' => e = .returned (.bool true) ∧ Upd [] w w' := by
  obtain ⟨a0, c0, rfl, hc0, hm0, he0⟩ := h0
  obtain ⟨a2, c2, rfl, hc2, hm2, he2⟩ := h2
  have HE0 := hd he0
  have HE2 := hd he2
  clear he0 he2
  go_enter Try.func11, Try.ntmps11
  go_wp2_with fail
  refine (wawake_any w).mono ?_
  rintro e w1 ⟨rfl, hu1⟩
  have HU1 := hd hu1
  clear hu1
  go_wp2_with fail
  refine (new_any 1048576 w1).mono ?_
  rintro e w3 ⟨b, rfl, hb, hu3, hd3⟩
  have hd3 : DiskAt w3 b (bareD 1048576) := hd3
  have hs0 := HU1.out.size
  have HB := hd (show w.heap.size ≤ b by omega)
  have HU3 := hd (HU1.out.trans hu3)
  have HD3 := hd hd3
  have hs3 := hu3.size
  clear hu3 hd3 hb
  have e0 : ∃ W kx, w3.heap.size = kx ∧ w3.alloc (.cells #[.slice none 0 0, .int .i64 0, .slice none 0 0, .bool false] 75) = W ∧ w.heap.size ≤ kx ∧ Upd [] w W ∧ DiskAt W b (bareD 1048576) ∧ RunBlk w.heap.size kx W [] 0 [] false :=
    ⟨_, _, rfl, rfl, by omega, HU3.out.alloc _, HD3.out.alloc _, ⟨_, _, Blk.new _ _ _, World.ownsRow_nil _ _ _ _, World.ownsRow_nil _ _ _ _⟩⟩
  go_upto_region 5 with fail
  obtain ⟨W4, kx, hkx, hW4, hkx', hu4, hd4, hr4⟩ := e0
  rw [hW4, hkx]
  have HKX := hd hkx'
  have HU4 := hd hu4
  have HO4 := hd (show KOut w.heap.size b kx 0 0 W4 from ⟨_, 0, 0, [], [], 0, 0, [], 0, [], false, hd4, by rw [bare_dk]; exact rest_bare 270000 1048576, rfl, hr4, .inr ⟨by simp, by simp, by simp⟩, Few.nil _, Few.nil _, by omega, by omega, by omega⟩)
  clear hW4 hkx hkx' hu4 hd4 hr4 HD3 HU3 HU1 hs0 hs3 hd3
  go_wp2_with fail
  go_loopw [9, 10] (fun s9 s10 wr => ∃ (a l : Nat), s9 = .int .i64 a ∧ s10 = .int .i64 l ∧ a ≤ 40 ∧ l ≤ 3 ∧ Upd [] w wr ∧ KOut w.heap.size b kx l a wr) (fun _ s10 _ => 3 - (intOf s10).toNat)
  case atStart => exact ⟨0, 0, rfl, rfl, by omega, by omega, HU4.out, HO4.out⟩
  case round =>
    clear HU4 HO4
    obtain ⟨a, l, rfl, rfl, ha, hl, hu, ho⟩ := hrel
    obtain ⟨D, g, nn, X, J, k, v, L, kk, O, had, hD, hR, hz, hrun, hmay, hfL, hfO, hkk, hg, hv⟩ := ho
    have hfX := Few.may hfL hfO hmay
    have HU := hd hu
    have HD := hd hD
    have HR := hd hR
    have HRUN := hd hrun
    have HMAY := hd hmay
    have HFX := hd hfX
    have HOP := hd (wopen_rest big_caps (by decide) hR (few_bnd hfX (by omega) (by omega) (by omega)) (few_fit hfX (g + 1) (by omega)) b wr hD)
    clear hu hD hR hrun hmay hfL hfO hfX
    by_cases hl3 : l < 3
    · have hl3' : (l : Int) < 3 := by omega
      go_wp2_with fail
      refine HOP.out.mono ?_
      rintro e w5 ⟨d5, hf5, hu5, hd5, hr5⟩
      rcases hr5 with ⟨g5, n5, v5, hg5, hv5, ⟨kl, kc, vl, rfl, hkl, hkc, hl5, hc5, hv5'⟩, hlv5⟩ | ⟨hz', _⟩
      rotate_left
      · exact absurd hz hz'
      have hz5 : d5.fail = 0 := by have h1 := base_fail hlv5; have h2 : D.fail = 0 := hz; omega
      have hB5 := HB.out
      have hKX5 := HKX.out
      have hsz := HU.out.size
      have HRUN5 := hd (HRUN.out.upd hu5 (by simpa using HRUN.out.ne HD.out (by decide)) (alone HD.out))
      have HU5 := hd (HU.out.trans' hu5 (by intro i hi; simp only [List.mem_cons, List.not_mem_nil, or_false] at hi; omega))
      have HD5 := hd hd5
      have HL5 := hd hl5
      have HC5 := hd hc5
      have HLV5 := hd hlv5
      have HV5 := hd (own_mono hv5' hsz)
      have hkl' : w.heap.size ≤ kl := by omega
      have hkc' : w.heap.size ≤ kc := by omega
      have HK := hd (And.intro hkl' hkc')
      have hs5 := hu5.size
      clear hu5 hd5 hl5 hc5 hlv5 hv5' hf5 hz hkl hkc hkl' hkc' HU HD HR HRUN HOP hsz
      obtain ⟨vl0, vo0, hbx, hvl0, hvo0⟩ := HRUN5.out
      obtain ⟨al0, cl0, rfl, -⟩ := own_open hvl0
      obtain ⟨ao0, co0, rfl, -⟩ := own_open hvo0
      obtain ⟨ax, cx, rfl, -⟩ := own_open HV5.out
      have HMY := hd (wmay_any L O X kk had _ _ _ w.heap.size w.heap.size w.heap.size w5 hvl0 hvo0 HV5.out (by omega) HMAY.out)
      have HBX := hd hbx
      have hxc := hbx.cell
      clear hvl0 hvo0 hbx HRUN5
      go_wp2_with fail
      refine HMY.out.mono ?_
      rintro e w6 ⟨rfl, hu6⟩
      have hne5 := own_ne_any HV5.out HBX.out (by decide)
      have HU6 := hd (HU5.out.trans hu6)
      have HD6 := hd (HD5.out.upd hu6 (by simp))
      have HL6 := hd (HL5.out.upd hu6 (by simp))
      have HC6 := hd (HC5.out.upd hu6 (by simp))
      have HV6 := hd (own_upd HV5.out hu6 (by simp))
      have HBX6 := hd (HBX.out.upd hu6 (by simp))
      have hs6 := hu6.size
      clear hxc hu6 HMY HU5 HD5 HL5 HC5 HV5 HBX
      have hxc := HBX6.out.cell
      have hxz := HBX6.out.frozen
      obtain ⟨W7, e7, hu7, hb7⟩ := set4 HBX6.out (.slice ax X.length cx) (.int .i64 X.length) (.slice none 0 0) (.bool false)
      have hxc7 := hb7.cell
      go_upto_region 13 with fail
      have hrun7 : RunBlk w.heap.size kx W7 X X.length [] false := ⟨_, _, hb7, own_upd HV6.out hu7 (fun i hi hm => by
        simp only [List.mem_cons, List.not_mem_nil, or_false] at hm
        subst hm
        exact own_ne_any HV6.out HBX6.out (by decide) _ hi rfl), World.ownsRow_nil _ _ _ _⟩
      have hnb : b ≠ kx := Ne.symm (blk_ne HBX6.out HD6.out (by decide))
      have hnl : kl ≠ kx := Ne.symm (blk_ne HBX6.out HL6.out (by decide))
      have hnc : kc ≠ kx := Ne.symm (blk_ne HBX6.out HC6.out (by decide))
      have HRUN7 := hd hrun7
      have HU7 := hd (HU6.out.trans' hu7 (by intro i hi; simp only [List.mem_cons, List.not_mem_nil, or_false] at hi; omega))
      have HD7 := hd (HD6.out.upd hu7 (by simpa using hnb))
      have HL7 := hd (HL6.out.upd hu7 (by simpa using hnl))
      have HC7 := hd (HC6.out.upd hu7 (by simpa using hnc))
      have HSY := hd (wsync_live big_caps (by decide) HLV5.out (few_bnd HFX.out (by omega) (by omega) (by omega)) kl kc b W7 HD7.out HL7.out HC7.out)
      have HNE := hd (And.intro hnb (And.intro hnl hnc))
      clear e7 hxc hxz hxc7 hb7 hu7 hrun7 HBX6 HU6 HD6 HL6 HC6 HV6 hnb hnl hnc hne5
      go_wp2_with fail
      refine HSY.out.mono ?_
      rintro e w8 ⟨d8, hf8, hu8, hd8, hr8⟩
      rcases hr8 with ⟨rfl, v8, hv8a, hv8, hl8, hc8, hlv8⟩ | ⟨hz', _⟩
      rotate_left
      · exact absurd hz5 hz'
      have HRUN8 := hd (HRUN7.out.upd hu8 (by obtain ⟨h1, h2, h3⟩ := HNE.out; simp; exact ⟨Ne.symm h1, Ne.symm h2, Ne.symm h3⟩) (trio HD7.out HL7.out HC7.out))
      have HU8 := hd (HU7.out.trans' hu8 (by intro i hi; have := HK.out; simp only [List.mem_cons, List.not_mem_nil, or_false] at hi; omega))
      have HD8 := hd hd8
      have HL8 := hd hl8
      have HC8 := hd hc8
      have HLV8 := hd hlv8
      have HV8 := hd (show v8 ≤ a + 2 * l + 2 by omega)
      clear hf8 hu8 hd8 hl8 hc8 hlv8 hv8 hv8a hz5 HSY HU7 HD7 HL7 HC7 HRUN7 HLV5 hv5 hv
      go_upto_region 15 with fail
      go_cut [] (fun wx => Upd [] w wx ∧ KIn w.heap.size b kl kc kx l a wx)
      case first =>
        have key : ∀ (q : Int) (W : World), 0 ≤ q → q ≤ 100 → Upd [b] w8 W → DiskAt W b { d8 with fail := max (min q 1073741824) (-1) + 1 } → Upd [] w W ∧ KIn w.heap.size b kl kc kx l a W := fun q W h0 h1 hu hD => by
          obtain ⟨n1, n2, n3⟩ := HNE.out
          refine ⟨HU8.out.trans' hu (by intro i hi; simp only [List.mem_cons, List.not_mem_nil, or_false] at hi; omega), _, g5, _, X, X.length, v8, [], false, hD, HL8.out.upd hu ?_, HC8.out.upd hu ?_, base_till HLV8.out _ (by omega) (by omega), HRUN8.out.upd hu (by simpa using Ne.symm n1) (alone HD8.out), HFX.out, Few.nil _, by omega, HV8.out⟩
          · simpa using blk_ne HL8.out HD8.out (by decide)
          · simpa using blk_ne HC8.out HD8.out (by decide)
        have HKEY := hd key
        clear key
        rcases (by omega : fail < 0 ∨ fail = 0 ∨ (0 < fail ∧ fail < 100) ∨ fail = 100 ∨ 100 < fail) with h | rfl | ⟨h, h'⟩ | rfl | h
        · go_wp2_with fail
          refine (fail_any d8 0 w8 b HD8.out).mono ?_
          rintro e w4 ⟨rfl, hu4, hd4⟩
          go_wp2_with fail
          go_meet
          case rel => exact HKEY.out 0 w4 (by decide) (by decide) hu4 hd4
        · go_wp2_with fail
          refine (fail_any d8 0 w8 b HD8.out).mono ?_
          rintro e w4 ⟨rfl, hu4, hd4⟩
          go_wp2_with fail
          go_meet
          case rel => exact HKEY.out 0 w4 (by decide) (by decide) hu4 hd4
        · go_wp2_with fail
          refine (fail_any d8 fail w8 b HD8.out).mono ?_
          rintro e w4 ⟨rfl, hu4, hd4⟩
          go_wp2_with fail
          go_meet
          case rel => exact HKEY.out fail w4 (by omega) (by omega) hu4 hd4
        · go_wp2_with fail
          refine (fail_any d8 100 w8 b HD8.out).mono ?_
          rintro e w4 ⟨rfl, hu4, hd4⟩
          go_wp2_with fail
          go_meet
          case rel => exact HKEY.out 100 w4 (by decide) (by decide) hu4 hd4
        · go_wp2_with fail
          refine (fail_any d8 100 w8 b HD8.out).mono ?_
          rintro e w4 ⟨rfl, hu4, hd4⟩
          go_wp2_with fail
          go_meet
          case rel => exact HKEY.out 100 w4 (by decide) (by decide) hu4 hd4
      case rest =>
        obtain ⟨hu9, hi9⟩ := hcut
        have HU9 := hd hu9
        have HI9 := hd hi9
        clear hu9 hi9 HU8 HD8 HL8 HC8 HRUN8 HLV8 HV8
        go_upto_block 2 with fail
        go_cut [9] (fun s9 wx => ∃ a' : Nat, s9 = .int .i64 a' ∧ a' ≤ 40 ∧ Upd [] w wx ∧ KEnd w.heap.size b kx l a' wx)
        case first =>
          go_wp2_with fail
          go_loopw [9] (fun s9 wr => ∃ a' : Nat, s9 = .int .i64 a' ∧ a' ≤ 40 ∧ Upd [] w wr ∧ KIn w.heap.size b kl kc kx l a' wr) (fun s9 _ => 40 - (intOf s9).toNat)
          case atStart => exact ⟨a, rfl, ha, HU9.out, HI9.out⟩
          case round =>
            clear HU9 HI9
            obtain ⟨a', rfl, ha', hu, hi⟩ := hrel
            by_cases hgo : a' < n ∧ a' < 40
            · obtain ⟨hn, h40⟩ := hgo
              obtain ⟨ka, oa, rfl, hka, hel⟩ := HE0.out (by omega)
              obtain ⟨kind, S, lv, tx, m0, m1, m2, hS, htx, hls⟩ := hel a' hn
              have hold : ∀ {p v}, w.cell? ⟨ka, p, none⟩ = some v → wr.cell? ⟨ka, p, none⟩ = some v := fun h => (World.cell?_of_block (hu.block ka hka (by simp))).trans h
              have n0 := hold m0
              have n1 := hold m1
              have n2 := hold m2
              clear hel m0 m1 m2 hold
              obtain ⟨D, g, nn, L, k, v, O, had, hD, hLg, hC, hlv, ⟨vl, vo, hbx, hvl, hvo⟩, hfL, hfO, hg, hv⟩ := hi
              have hK := HK.out
              have hKX := HKX.out
              have hsz := hu.size
              have HDO := hd (fun W (hu' : Upd [] wr W) => wdo_run hlv (by omega) (by omega) hfL (by omega) w.heap.size kl kc b O had vl vo kind S hS tx lv W (Nat.le_trans hsz hu'.size) (own_upd hvl hu' (by simp)) (own_upd hvo hu' (by simp)) (hD.upd hu' (by simp)) (hLg.upd hu' (by simp)) (hC.upd hu' (by simp)) (htx.upd (hu.trans hu')) hls)
              obtain ⟨al, cl, rfl, -⟩ := own_open hvl
              obtain ⟨ao, co, rfl, -⟩ := own_open hvo
              obtain ⟨av, cv, rfl, -⟩ := id htx
              have HU := hd hu
              have HBX := hd hbx
              have HKS := hd (show ∀ W, Upd [b, kl, kc] wr W → ((∀ o', W.cell? ⟨kx, o', none⟩ = #[.slice al L.length cl, .int .i64 k, .slice ao O.length co, .bool had][o']?) ∧ W.cell? ⟨ka, oa + a' * 3, none⟩ = some (.int .i64 kind) ∧ W.cell? ⟨ka, oa + a' * 3 + 1, none⟩ = some (.string (txt S)) ∧ W.cell? ⟨ka, oa + a' * 3 + 2, none⟩ = some (.slice av tx.length cv)) from fun W hW => by
                have h1 := (hbx.upd hW (by simp only [List.mem_cons, List.not_mem_nil, or_false, not_or]; exact ⟨blk_ne hbx hD (by decide), blk_ne hbx hLg (by decide), blk_ne hbx hC (by decide)⟩)).cell
                have hB := HB.out
                have h2 : ka ∉ [b, kl, kc] := by simp only [List.mem_cons, List.not_mem_nil, or_false]; omega
                have h3 : ∀ {p v}, wr.cell? ⟨ka, p, none⟩ = some v → W.cell? ⟨ka, p, none⟩ = some v := fun h => (World.cell?_of_block (hW.block ka (by omega) h2)).trans h
                exact ⟨h1, h3 n0, h3 n1, h3 n2⟩)
              have HTR := hd (And.intro (blk_ne hbx hD (by decide)) (And.intro (blk_ne hbx hLg (by decide)) (blk_ne hbx hC (by decide))))
              have HFF := hd (And.intro hfL hfO)
              have hbl := hD.lt
              have hkl := hLg.lt
              have hcl := hC.lt
              have hxl := hbx.lt
              have hxc := hbx.cell
              clear hu hD hLg hC hlv hbx hvl hvo hfL hfO htx hls
              go_upto_region 17 with fail
              go_cut [14, 15] (fun s14 s15 wx => ∃ (ky : Nat) (e : Int) (al ao : Option Addr) (cl co : Nat) (L' : List (List UInt8)) (k' : Nat) (O' : List (List UInt8)) (had' : Bool), s14 = .pointer (some ⟨ky, 0, none⟩) ∧ s15 = .int .i64 e ∧ Upd [b, kl, kc] wr wx ∧ ky ≠ kx ∧
                Blk wx ky #[.slice al L'.length cl, .int .i64 k', .slice ao O'.length co, .bool had'] 75 ∧ StrRow w.heap.size wx (.slice al L'.length cl) L' ∧ StrRow w.heap.size wx (.slice ao O'.length co) O' ∧ DoRes w.heap.size kl kc b D kind S tx g L v O wx e L' k' O' had')
              case first =>
                go_region_held3 (fun W => (∀ o', W.cell? ⟨kx, o', none⟩ = #[.slice al L.length cl, .int .i64 k, .slice ao O.length co, .bool had][o']?) ∧ W.cell? ⟨ka, oa + a' * 3, none⟩ = some (.int .i64 kind) ∧ W.cell? ⟨ka, oa + a' * 3 + 1, none⟩ = some (.string (txt S)) ∧ W.cell? ⟨ka, oa + a' * 3 + 2, none⟩ = some (.slice av tx.length cv))
                  ((refine HKS.out _ ?_; repeat (first | with_reducible exact Upd.refl _ _ | with_reducible exact hup4 | with_reducible refine Upd.drew ?_ | with_reducible refine Upd.alloc ?_ _ | with_reducible refine Upd.setCell ?_ (by first | (simp; done) | (simp; omega)) _)))
                  (first
                  | ((with_reducible refine (HDO.out _ ((Upd.refl [] wr).alloc _).drew).mono ?_); rintro x w4 ⟨al1, ao1, cl1, co1, e1, L1, k1, O1, had1, rfl, hu4, hl4, ho4, hr4⟩; have hup4 : Upd [b, kl, kc] wr w4 := (((Upd.refl [b, kl, kc] wr).alloc _).drew).trans hu4; have hy4 := Blk.upd (Blk.drew (Blk.new wr #[.slice none 0 0, .int .i64 0, .slice none 0 0, .bool false] 75)) hu4 (by simp only [List.mem_cons, List.not_mem_nil, or_false]; omega); have hyc4 := hy4.cell; have hyz4 := hy4.frozen; have hwl4 := hy4.lt)
                  | ((with_reducible refine (HDO.out _ (Upd.refl [] wr).drew).mono ?_); rintro x w4 ⟨al1, ao1, cl1, co1, e1, L1, k1, O1, had1, rfl, hu4, hl4, ho4, hr4⟩; have hup4 : Upd [b, kl, kc] wr w4 := ((Upd.refl [b, kl, kc] wr).drew).trans hu4; have hs4 := hup4.size)
                  | fail "no arm")
                · go_wp2_with fail
                  go_meet
                  case rel => exact ⟨w4.heap.size, e1, al1, ao1, cl1, co1, L1, k1, O1, had1, rfl, rfl, hup4.alloc _, by omega, Blk.new _ _ _, own_upd (L := []) hl4 ((Upd.refl _ _).alloc _) (by simp), own_upd (L := []) ho4 ((Upd.refl _ _).alloc _) (by simp), hr4.upd (Ls := []) ((Upd.refl _ _).alloc _) (by simp) (by simp) (by simp)⟩
                · obtain ⟨W6, e6, u6, b6⟩ := set4 hy4 (.slice al1 L1.length cl1) (.int .i64 k1) (.slice ao1 O1.length co1) (.bool had1)
                  rw [e6]
                  go_wp2_with fail
                  go_meet
                  case rel => exact ⟨wr.heap.size, e1, al1, ao1, cl1, co1, L1, k1, O1, had1, rfl, rfl, hup4.trans' u6 (by intro i hi; simp only [List.mem_cons, List.not_mem_nil, or_false] at hi; omega), by omega, b6, own_upd hl4 u6 (fun i hi hm => by
                    simp only [List.mem_cons, List.not_mem_nil, or_false] at hm
                    subst hm
                    exact own_ne_any hl4 hy4 (by decide) _ hi rfl), own_upd ho4 u6 (fun i hi hm => by
                    simp only [List.mem_cons, List.not_mem_nil, or_false] at hm
                    subst hm
                    exact own_ne_any ho4 hy4 (by decide) _ hi rfl), hr4.upd u6 (by simp; omega) (by simp; omega) (by simp; omega)⟩
              case rest =>
                obtain ⟨ky, e, al1, ao1, cl1, co1, L1, k1, O1, had1, rfl, rfl, hup, hkyx, hby, hl4, ho4, hr4⟩ := hcut
                have hB := HB.out
                have hU4 := HU.out.trans' hup (by intro i hi; simp only [List.mem_cons, List.not_mem_nil, or_false] at hi; omega)
                have hbx4 := HBX.out.upd hup (by obtain ⟨h1, h2, h3⟩ := HTR.out; simp only [List.mem_cons, List.not_mem_nil, or_false, not_or]; exact ⟨h1, h2, h3⟩)
                obtain ⟨W5, e5, u5, b5⟩ := set4 hbx4 (.slice al1 L1.length cl1) (.int .i64 k1) (.slice ao1 O1.length co1) (.bool had1)
                have hrow : ∀ vv X, StrRow w.heap.size wc vv X → StrRow w.heap.size W5 vv X := fun vv X h => own_upd h u5 (fun i hi hm => by
                  simp only [List.mem_cons, List.not_mem_nil, or_false] at hm
                  subst hm
                  exact own_ne_any h hbx4 (by decide) _ hi rfl)
                obtain ⟨t1, t2, t3⟩ := HTR.out
                have HRUN := hd (show RunBlk w.heap.size kx W5 L1 k1 O1 had1 from ⟨_, _, b5, hrow _ _ hl4, hrow _ _ ho4⟩)
                have HR5 := hd (hr4.upd u5 (by simpa using Ne.symm t1) (by simpa using Ne.symm t2) (by simpa using Ne.symm t3))
                have HU5 := hd (hU4.trans' u5 (by intro i hi; simp only [List.mem_cons, List.not_mem_nil, or_false] at hi; omega))
                have hxc4 := hbx4.cell
                have hxz4 := hbx4.frozen
                have hyc4 := hby.cell
                have HKL := hd (And.intro hg hv)
                clear hxc hup hkyx hby hl4 ho4 hr4 hU4 hbx4 u5 b5 hrow t1 t2 t3 HDO HKS HU HBX n0 n1 n2 hg hv
                obtain ⟨D', hf', hD', hnear, hr'⟩ := HR5.out
                obtain ⟨hg, hv⟩ := HKL.out
                have HFW := hd (hnear.few HFF.out.1 HFF.out.2 (by omega))
                have hk1 : k1 ≤ 1000 := by have := hnear.2.2; have := HFF.out.1.1; omega
                rcases hr' with ⟨rfl, g', n', v', hL', hC', hlv', hg', hv', -⟩ | ⟨hz', rfl, hsf⟩
                · have HI := hd (show KIn w.heap.size b kl kc kx l (a' + 1) W5 from ⟨D', g', n', L1, k1, v', O1, had1, hD', hL', hC', hlv', HRUN.out, HFW.out.1.mono (by omega), HFW.out.2.mono (by omega), by omega, by omega⟩)
                  clear hL' hC' hlv' hD' hnear hf'
                  go_wp2_with fail
                  go_roundw
                  case rel => exact ⟨a' + 1, by go_num, by omega, HU5.out, HI.out⟩
                  case measure => simp [intOf]; omega
                · have HI := hd (show KEnd w.heap.size b kx l (a' + 1) W5 from ⟨D', L1, k1, O1, had1, hD', hsf.mono (fun _ h => h) (by omega) (by omega), HRUN.out, HFW.out.1.mono (by omega), HFW.out.2.mono (by omega), hk1⟩)
                  clear hsf hD' hnear hf'
                  go_wp2_with fail
                  go_meet
                  case rel => exact ⟨a' + 1, by go_num, by omega, HU5.out, HI.out⟩
            · have HI := hd (hi.end_ (by omega))
              have HU := hd hu
              clear hi hu
              by_cases hn : a' < n
              · have hn' : (a' : Int) < (n : Int) := by omega
                have h40 : ¬ (a' : Int) < 40 := by omega
                go_wp2_with fail
                go_meet
                case rel => exact ⟨a', rfl, ha', HU.out, HI.out⟩
              · have hn' : ¬ (a' : Int) < (n : Int) := by omega
                go_wp2_with fail
                go_meet
                case rel => exact ⟨a', rfl, ha', HU.out, HI.out⟩
        case rest =>
          obtain ⟨a', rfl, ha', hu, ⟨D, L, k, O, had, hD, hsf, hrun, hfL, hfO, hk⟩⟩ := hcut
          have HU := hd hu
          have HD := hd hD
          have HSF := hd hsf
          have HRUN := hd hrun
          have HFF := hd (And.intro hfL hfO)
          clear hu hD hsf hrun hfL hfO HU9 HI9
          go_upto_region 24 with fail
          go_cut [94] (fun s94 wx => ∃ bb : Bool, s94 = .bool bb ∧ (bb = true → l < m) ∧ wx = wc)
          case first =>
            by_cases hlm : l < m
            · have hlm' : (l : Int) < (m : Int) := by omega
              obtain ⟨k2, o2, rfl, hk2, hel⟩ := HE2.out (by omega)
              obtain ⟨u, cs, hc, hcs⟩ := hel l hlm
              have hcw : wc.cell? ⟨k2, o2 + l, none⟩ = some u := (World.cell?_of_block (HU.out.block k2 hk2 (by simp))).trans hc
              obtain ⟨au, cu, rfl, h1, h2, -⟩ := hcs b HB.out
              clear hel hc hcs
              go_wp2_with fail
              go_meet
              case rel => exact ⟨_, rfl, fun _ => hlm, rfl⟩
            · have hlm' : ¬ (l : Int) < (m : Int) := by omega
              go_wp2_with fail
              go_meet
              case rel => exact ⟨false, rfl, fun h => (by cases h), rfl⟩
          case rest =>
            obtain ⟨bb, rfl, hbb, rfl⟩ := hcut
            go_upto_if 94 with fail
            go_cut [16] (fun s16 wx => ∃ (ac : Option Addr) (c16 : Nat) (cs : List Int), s16 = .slice ac cs.length c16 ∧ IntsAt b wx s16 cs ∧ wx = wc)
            case first =>
              have hnil : IntsAt b wc (.slice none 0 0) [] := ⟨none, 0, rfl, by simp, by omega, by simp⟩
              have HNIL := hd hnil
              clear hnil
              rcases bb with _ | _
              · go_wp2_with fail
                go_meet
                case rel => exact ⟨none, 0, [], rfl, HNIL.out, rfl⟩
              · have hlm := hbb rfl
                have hlm' : (l : Int) < (m : Int) := by omega
                obtain ⟨k2, o2, rfl, hk2, hel⟩ := HE2.out (by omega)
                obtain ⟨u, cs, hc, hcs⟩ := hel l hlm
                have hcw : wc.cell? ⟨k2, o2 + l, none⟩ = some u := (World.cell?_of_block (HU.out.block k2 hk2 (by simp))).trans hc
                have hcs' := hcs b HB.out
                have HCS := hd (hcs'.upd HU.out (by simp))
                obtain ⟨au, cu, rfl, h1, h2, -⟩ := hcs'
                clear hel hc hcs hbb
                go_wp2_with fail
                go_meet
                case rel => exact ⟨au, cu, cs, rfl, HCS.out, rfl⟩
            case rest =>
              obtain ⟨ac, cc, cs, rfl, hcs, rfl⟩ := hcut
              have HCR := hd (crash_any D _ cs _ b HD.out HSF.out.1.small HSF.out.2.1 hcs)
              clear hcs
              go_wp2_with fail
              refine HCR.out.mono ?_
              rintro e w6 ⟨rfl, hu6, hd6⟩
              obtain ⟨g', n', X', J', k', v', hR', hz', hA', hg', hv'⟩ := HSF.out.2.2 cs
              have hB := HB.out
              have HU6 := hd (HU.out.trans' hu6 (by intro i hi; simp only [List.mem_cons, List.not_mem_nil, or_false] at hi; omega))
              have HK6 := hd (show KOut w.heap.size b kx (l + 1) a' w6 from ⟨_, g', n', X', J', k', v', L, k, O, had, hd6, hR', hz', HRUN.out.upd hu6 (by simpa using HRUN.out.ne HD.out (by decide)) (alone HD.out), hA', HFF.out.1, HFF.out.2, hk, by omega, by omega⟩)
              clear hu6 hd6 hR' hz' hA' hg' hv' HCR HU HD HSF HRUN
              go_wp2_with fail
              go_roundw
              case rel => exact ⟨a', l + 1, rfl, by go_num, ha', by omega, HU6.out, HK6.out⟩
              case measure => simp [intOf]; omega
    · have hl3' : ¬ (l : Int) < 3 := by omega
      go_wp2_with fail
      refine HOP.out.mono ?_
      rintro e w5 ⟨d5, hf5, hu5, hd5, hr5⟩
      rcases hr5 with ⟨g5, n5, v5, hg5, hv5, ⟨kl, kc, vl, rfl, hkl, hkc, hl5, hc5, hv5'⟩, hlv5⟩ | ⟨hz', _⟩
      rotate_left
      · exact absurd hz hz'
      have hB5 := HB.out
      have hsz := HU.out.size
      have HRUN5 := hd (HRUN.out.upd hu5 (by simpa using HRUN.out.ne HD.out (by decide)) (alone HD.out))
      have HU5 := hd (HU.out.trans' hu5 (by intro i hi; simp only [List.mem_cons, List.not_mem_nil, or_false] at hi; omega))
      have HV5 := hd (own_mono hv5' hsz)
      clear hu5 hd5 hl5 hc5 hlv5 hv5' hf5 hz hkl hkc HU HD HR HRUN HOP hsz
      obtain ⟨vl0, vo0, hbx, hvl0, hvo0⟩ := HRUN5.out
      obtain ⟨al0, cl0, rfl, -⟩ := own_open hvl0
      obtain ⟨ao0, co0, rfl, -⟩ := own_open hvo0
      obtain ⟨ax, cx, rfl, -⟩ := own_open HV5.out
      have HMY := hd (wmay_any L O X kk had _ _ _ w.heap.size w.heap.size w.heap.size w5 hvl0 hvo0 HV5.out (by omega) HMAY.out)
      have hxc := hbx.cell
      clear hvl0 hvo0 hbx HRUN5
      go_wp2_with fail
      refine HMY.out.mono ?_
      rintro e w6 ⟨rfl, hu6⟩
      have HU6 := hd (HU5.out.trans hu6)
      clear hxc hu6 HMY
      go_wp2_with fail
      go_ret
      exact ⟨rfl, HU6.out⟩
end Go.Proofs.Ytjaoiaknglnomaa

namespace Go.Proofs.Ytjaoiaknglnomaa.walKeeps
open Go.ChangeShapes Go.WideShapes Go.ChangeAt Go.RowKit Go.Deep
set_option linter.unusedVariables false
set_option linter.unusedSimpArgs false

theorem own : ownKnob Try.prog.godebug = none := by kernel_rfl
theorem laidOut : laidOutB Try.prog = true := by kernel_rfl

section
variable {H : Type} {enc : TypeId × Value → H} {w : World} {base : Nat} {spare : Nat → Bool} {held : Bool}
theorem cho_at {fuel : Nat} {v : Value} {x : DataW H × List MemPlace} (h : DataW.trod enc Try.prog w base spare held fuel 73 [v] = some x) : ∃ n, ChoAt w v n := by
  obtain ⟨a, len, cap, hcs, hl, hm, hel⟩ := slice_one Try.underlying73 (by kernel_rfl) h
  simp at hcs
  subst hcs
  refine ⟨len, a, cap, rfl, hl, by simpa [maxLen] using hm, fun hp => ?_⟩
  obtain ⟨k, o, rfl, hk, hf⟩ := hel hp
  refine ⟨k, o, rfl, hk, fun t ht => ?_⟩
  obtain ⟨u, y, n, hc, hy⟩ := hf t ht
  obtain ⟨cs, hcs⟩ := ints_at Try.underlying32 Try.underlying3 (by kernel_rfl) hy
  exact ⟨u, cs, hc, hcs⟩
end

set_option maxRecDepth 100000 in
theorem lifted (os : Os) (started : os.Started) (H : Type) (enc : TypeId × Value → H) :
    ReturnsInHanded {} Try.checked os 11 .any (Rows.walKeepsSpec.pre6 enc Try.prog Try.f11 Rows.walKeepsRow.domain false) (Rows.walKeepsSpec.post enc Try.prog Try.f11 false true false false) := by
  refine returnsInHanded_of_change (C := Try.checked) own started (by kernel_rfl) Try.func11
    (ChangeSpec.witness6 (enc := enc) (C := Try.checked) false ⟨#[], #[.slice none 0 0, .int .i64 0, .slice none 0 0], []⟩ 8 (by kernel_rfl) (by kernel_rfl) (by kernel_rfl) (by kernel_rfl)) ?_
  intro W base args ds gs before hval0 hW hcnd _
  have hval : ∀ (j : Nat) t v, Try.f11.params[j]? = some t → args[j]? = some v → Value.okWide Try.prog W .any base t v := hval0
  have hW' := hW
  obtain ⟨p, q, hA0, hV, rfl, hfz, hnd⟩ := hW
  have hA : DataW.TrodAll enc Try.prog W 0 (fun _ => true) true Try.f11.params.toList args.toList ds p := hA0
  rw [Try.params11] at hA hval
  obtain ⟨v0, vs0, d0, ds0, p0, q0, hargs, rfl, rfl, h0, r0⟩ := trodAll_cons hA
  obtain ⟨v1, vs1, d1, ds1, p1, q1, rfl, rfl, rfl, h1, r1⟩ := trodAll_cons r0
  obtain ⟨v2, vs2, d2, ds2, p2, q2, rfl, rfl, rfl, h2, r2⟩ := trodAll_cons r1
  obtain ⟨rfl, rfl, rfl⟩ := trodAll_nil r2
  obtain rfl : args = #[v0, v1, v2] := by cases args; simp_all
  obtain ⟨rfl, rfl⟩ := trodVars_none hV
  obtain ⟨a0, len0, cap0, rfl⟩ := okWide_slice Try.underlying72 (hval 0 72 v0 rfl rfl)
  obtain ⟨a2, len2, cap2, rfl⟩ := okWide_slice Try.underlying73 (hval 2 73 v2 rfl rfl)
  obtain ⟨z1, rfl, _⟩ := okWide_int Try.underlying3 (hval 1 3 v1 rfl rfl)
  have k0 := h0
  have k1 := h1
  have k2 := h2
  have lt0 : ∀ x ∈ p0, x.block < W.heap.size := by obtain ⟨m, hm⟩ := k0; exact DataW.trod_lt m _ _ _ hm
  have lt1 : ∀ x ∈ p1, x.block < W.heap.size := by obtain ⟨m, hm⟩ := k1; exact DataW.trod_lt m _ _ _ hm
  have lt2 : ∀ x ∈ p2, x.block < W.heap.size := by obtain ⟨m, hm⟩ := k2; exact DataW.trod_lt m _ _ _ hm
  obtain ⟨n, hs1⟩ : ∃ n, Acts13At W (.slice a0 len0 cap0) n := by
    obtain ⟨fuel, hf⟩ := h0
    exact acts13_at hf
  obtain ⟨m, hcs⟩ : ∃ m, ChoAt W (.slice a2 len2 cap2) m := by
    obtain ⟨fuel, hf⟩ := h2
    exact cho_at hf
  clear hA0 hval0
  refine (keeps13_law _ _ n m z1 W hs1 hcs).mono fun e W' ⟨he, hu⟩ => ?_
  have bel : Below W.heap.size W W' := hu.below (Nat.le_refl _) (by simp)
  subst he
  exact ⟨_, rfl, _, _, _, [], _, [], hW', trodAll_mk1 (shut_bool Try.underlying4 _), (trodAll_cons_mk (Below.trod laidOut (by kernel_rfl) (of_decide_eq_true (by kernel_rfl)) k0 bel lt0) (trodAll_cons_mk (Below.trod laidOut (by kernel_rfl) (of_decide_eq_true (by kernel_rfl)) k1 bel lt1) (trodAll_cons_mk (Below.trod laidOut (by kernel_rfl) (of_decide_eq_true (by kernel_rfl)) k2 bel lt2) trodAll_mk0))), rfl, bel.frame _, fun h => by cases h⟩

theorem over : Rows.walKeepsRow.holds Try.pinned (OpenSpec.ofChange Rows.walKeepsSpec) :=
  OpenClaim.holds_of_wide 11 Try.f11 rfl rfl rfl rfl rfl rfl rfl ⟨rfl, rfl, rfl, rfl, rfl⟩ rfl rfl rfl rfl rfl (by kernel_rfl) Try.func11 (by kernel_rfl)
    (of_decide_eq_true (by kernel_rfl)) (by unfold Func.isWrapper; first | (rw [if_pos (by decide +kernel)]; kernel_rfl) | (rw [if_neg (by decide +kernel)]; exact ⟨rfl, rfl⟩))
    (fun os started H enc _ => lifted os started H enc)

/-- The statement. -/
theorem proved : Rows.WalKeepsSaid := over
end Go.Proofs.Ytjaoiaknglnomaa.walKeeps
