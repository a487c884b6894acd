/-
  The law WalPlays of layer 13, walked: it answers true. Condition: the list reads as a list.
-/
import Derived.Test.YtjaoiaknglnomaaWm23
import Derived.Deep.DeepCutAuto
import Derived.BigRegion
set_option linter.unusedVariables false
set_option linter.unusedSimpArgs false
set_option maxRecDepth 100000
namespace Go.Proofs.Ytjaoiaknglnomaa
open Go.RowKit

/-- A log of which no call fails. -/
def PIn (B b kl kc kx a g : Nat) (L : List (List UInt8)) (w : World) : Prop :=
  ∃ (D : DiskS) (n k v : Nat) (O : List (List UInt8)) (had : Bool),
    DiskAt w b D ∧ D.fail = 0 ∧ LogAt w kl kc b (lgOf g n L) ∧ CellAt w kc b 2 v ∧ Live 270000 1048576 D g n L k v ∧ RunBlk B kx w L k O had ∧ Few (a + 6) L ∧ Few (a + 6) O ∧ g ≤ a ∧ v ≤ a
theorem enc_cons (g : Nat) (P Q : List (List UInt8)) : encL g (P ++ Q) = encL g P ++ encL g Q := by simp [encL]
theorem enc_next (g : Nat) (P Q : List (List UInt8)) (t : Nat) (h : t < Q.length) : (encL g (P ++ Q.take (t + 1))).length = (encL g (P ++ Q.take t)).length + (spellL g Q[t]).length := by
  rw [List.take_succ_eq_append_getElem h, ← List.append_assoc, enc_snoc, List.length_append]
/-- What is behind the first ones of a list. -/
theorem TxsAt.drop {w : World} {k c : Nat} {P Q : List (List UInt8)} (h : TxsAt w (.slice (some ⟨k, 0, none⟩) (P ++ Q).length c) (P ++ Q)) : TxsAt w (.slice (some ⟨k, P.length, none⟩) Q.length (c - P.length)) Q := by
  obtain ⟨a, c', h1, h2, h3, h4⟩ := h
  simp only [Value.slice.injEq] at h1
  obtain ⟨rfl, -, rfl⟩ := h1
  rw [List.length_append] at h2
  refine ⟨_, _, rfl, by omega, by omega, fun h0 => ?_⟩
  obtain ⟨k', o, e, hk, hc⟩ := h4 (by rw [List.length_append]; omega)
  simp only [Option.some.injEq, Addr.mk.injEq, and_true] at e
  obtain ⟨rfl, rfl⟩ := e
  refine ⟨_, _, rfl, hk, fun i hi => ?_⟩
  have := hc (P.length + i) (by rw [List.length_append]; omega)
  rw [Nat.zero_add] at this
  rw [this]
  simp

set_option maxHeartbeats 8000000 in
theorem plays13_law (v0 : Value) (n : Nat) (w : World) (h0 : Acts13At w v0 n) :
    Calls Try.prog 13 #[v0] w fun e w' => e = .returned (.bool true) ∧ Upd [] w w' := by
  obtain ⟨a0, c0, rfl, hc0, hm0, he0⟩ := h0
  have HE0 := hd he0
  clear he0
  go_enter Try.func13, Try.ntmps13
  go_wp2_with fail
  refine (wawake_any w).mono ?_
  rintro e w1 ⟨rfl, hu1⟩
  have HU1 := hd hu1
  clear hu1
  go_wp2_with fail
  refine (new_any 1048576 w1).mono ?_
  rintro e w3 ⟨b, rfl, hb, hu3, hd3⟩
  have hd3 : DiskAt w3 b (bareD 1048576) := hd3
  have hs0 := HU1.out.size
  have HB := hd (show w.heap.size ≤ b by omega)
  have HU3 := hd (HU1.out.trans hu3)
  have HD3 := hd hd3
  have hs3 := hu3.size
  have hl0 : ∀ t ∈ ([] : List (List UInt8)), t.length ≤ 262144 := by simp
  clear hu3 hb
  go_wp2_with fail
  refine (wopen_live big_caps (by decide) (live_bare 270000 1048576) ⟨by decide, by decide, by decide, hl0⟩ (by decide) b w3 HD3.out).mono ?_
  rintro e w4 ⟨⟨kl, kc, vl, rfl, hkl, hkc, hl4, hc4, hv4⟩, hu4, hd4⟩
  obtain ⟨a4, cap4, rfl, -⟩ := own_open hv4
  have hkl' : w.heap.size ≤ kl := by omega
  have hkc' : w.heap.size ≤ kc := by omega
  have HK := hd (And.intro hkl' hkc')
  have HU4 := hd (HU3.out.trans' hu4 (by intro i hi; have := HB.out; simp at hi; omega))
  have HD4 := hd hd4
  have HL4 := hd hl4
  have HC4 := hd hc4
  have hs4 := hu4.size
  clear hu4 hd4 hl4 hc4 hv4 hkl hkc hkl' hkc' hd3
  have hlen0 : ([] : List (List UInt8)).length = 0 := rfl
  rw [hlen0]
  have e0 : ∃ W kx, w4.heap.size = kx ∧ w4.alloc (.cells #[.slice none 0 0, .int .i64 0, .slice none 0 0, .bool false] 75) = W ∧ w.heap.size ≤ kx ∧ Upd [] w W ∧ PIn w.heap.size b kl kc kx 0 0 [] W :=
    ⟨_, _, rfl, rfl, by omega, HU4.out.alloc _, bareD 1048576, 0, 0, 0, [], false, HD4.out.alloc _, rfl, HL4.out.alloc _, HC4.out.alloc _, live_bare 270000 1048576, ⟨_, _, Blk.new _ _ _, World.ownsRow_nil _ _ _ _, World.ownsRow_nil _ _ _ _⟩, Few.nil _, Few.nil _, by omega, by omega⟩
  go_upto_region 8 with fail
  obtain ⟨W5, kx, hkx, hW5, hkx', hu5, ho5⟩ := e0
  rw [hW5, hkx]
  have HKX := hd hkx'
  have HU5 := hd hu5
  have HO5 := hd ho5
  clear hW5 hkx hkx' hu5 ho5 HD4 HL4 HC4 HU4 HU3 HU1 HD3 hs0 hs3 hs4
  go_wp2_with fail
  go_loopw [8, 9, 10] (fun s8 s9 s10 wr => ∃ (a g : Nat) (L : List (List UInt8)), s8 = .int .u64 g ∧ s9 = .int .i64 (encL g L).length ∧ s10 = .int .i64 a ∧ a ≤ 30 ∧ Upd [] w wr ∧ PIn w.heap.size b kl kc kx a g L wr) (fun _ _ s10 _ => 30 - (intOf s10).toNat)
  case atStart => exact ⟨0, 0, [], rfl, rfl, rfl, by omega, HU5.out, HO5.out⟩
  case round =>
    clear HU5 HO5
    obtain ⟨a, g, L, rfl, rfl, rfl, ha, hu, ho⟩ := hrel
    by_cases hgo : a < n ∧ a < 30
    · obtain ⟨hn, h40⟩ := hgo
      obtain ⟨ka, oa, rfl, hka, hel⟩ := HE0.out (by omega)
      obtain ⟨kind, S, lv, tx, m0, m1, m2, hS, htx, hls⟩ := hel a hn
      have hold : ∀ {p v}, w.cell? ⟨ka, p, none⟩ = some v → wr.cell? ⟨ka, p, none⟩ = some v := fun h => (World.cell?_of_block (hu.block ka hka (by simp))).trans h
      have n0 := hold m0
      have n1 := hold m1
      have n2 := hold m2
      clear hel m0 m1 m2 hold
      obtain ⟨D, nn, k, v, O, had, hD, hz, hLg, hC, hlv, ⟨vl, vo, hbx, hvl, hvo⟩, hfL, hfO, hg, hv⟩ := ho
      have HZ := hd hz
      have HGV := hd (And.intro hg hv)
      have HVV := hd (And.intro hvl hvo)
      have h30' : (a : Int) < 30 := by omega
      have hn' : (a : Int) < (n : Int) := by omega
      have hK := HK.out
      have hKX := HKX.out
      have hsz := hu.size
      have HDO := hd (fun W (hu' : Upd [] wr W) => wdo_run hlv (by omega) (by omega) hfL (by omega) w.heap.size kl kc b O had vl vo kind S hS tx lv W (Nat.le_trans hsz hu'.size) (own_upd hvl hu' (by simp)) (own_upd hvo hu' (by simp)) (hD.upd hu' (by simp)) (hLg.upd hu' (by simp)) (hC.upd hu' (by simp)) (htx.upd (hu.trans hu')) hls)
      obtain ⟨al, cl, rfl, -⟩ := own_open hvl
      obtain ⟨ao, co, rfl, -⟩ := own_open hvo
      obtain ⟨av, cv, rfl, -⟩ := id htx
      have HU := hd hu
      have HBX := hd hbx
      have HKS := hd (show ∀ W, Upd [b, kl, kc] wr W → ((∀ p', W.cell? ⟨kx, p', none⟩ = #[.slice al L.length cl, .int .i64 k, .slice ao O.length co, .bool had][p']?) ∧ W.cell? ⟨ka, oa + a * 3, none⟩ = some (.int .i64 kind) ∧ W.cell? ⟨ka, oa + a * 3 + 1, none⟩ = some (.string (txt S)) ∧ W.cell? ⟨ka, oa + a * 3 + 2, none⟩ = some (.slice av tx.length cv)) from fun W hW => by
        have h1 := (hbx.upd hW (by simp only [List.mem_cons, List.not_mem_nil, or_false, not_or]; exact ⟨blk_ne hbx hD (by decide), blk_ne hbx hLg (by decide), blk_ne hbx hC (by decide)⟩)).cell
        have hB := HB.out
        have h2 : ka ∉ [b, kl, kc] := by simp only [List.mem_cons, List.not_mem_nil, or_false]; omega
        have h3 : ∀ {p v}, wr.cell? ⟨ka, p, none⟩ = some v → W.cell? ⟨ka, p, none⟩ = some v := fun h => (World.cell?_of_block (hW.block ka (by omega) h2)).trans h
        exact ⟨h1, h3 n0, h3 n1, h3 n2⟩)
      have HTR := hd (And.intro (blk_ne hbx hD (by decide)) (And.intro (blk_ne hbx hLg (by decide)) (blk_ne hbx hC (by decide))))
      have HFF := hd (And.intro hfL hfO)
      have hbl := hD.lt
      have hkl := hLg.lt
      have hcl := hC.lt
      have hxl := hbx.lt
      have hxc := hbx.cell
      clear hu hD hLg hC hlv hbx hvl hvo hfL hfO htx hls hz hg hv
      go_upto_region 12 with fail
      go_cut [11, 12] (fun s11 s12 wx => ∃ (ky : Nat) (e : Int) (al ao : Option Addr) (cl co : Nat) (L' : List (List UInt8)) (k' : Nat) (O' : List (List UInt8)) (had' : Bool), s11 = .pointer (some ⟨ky, 0, none⟩) ∧ s12 = .int .i64 e ∧ Upd [b, kl, kc] wr wx ∧ ky ≠ kx ∧
        Blk wx ky #[.slice al L'.length cl, .int .i64 k', .slice ao O'.length co, .bool had'] 75 ∧ StrRow w.heap.size wx (.slice al L'.length cl) L' ∧ StrRow w.heap.size wx (.slice ao O'.length co) O' ∧ DoRes w.heap.size kl kc b D kind S tx g L v O wx e L' k' O' had')
      case first =>
        go_region_held3 (fun W => (∀ p', W.cell? ⟨kx, p', none⟩ = #[.slice al L.length cl, .int .i64 k, .slice ao O.length co, .bool had][p']?) ∧ W.cell? ⟨ka, oa + a * 3, none⟩ = some (.int .i64 kind) ∧ W.cell? ⟨ka, oa + a * 3 + 1, none⟩ = some (.string (txt S)) ∧ W.cell? ⟨ka, oa + a * 3 + 2, none⟩ = some (.slice av tx.length cv))
          ((refine HKS.out _ ?_; repeat (first | with_reducible exact Upd.refl _ _ | with_reducible exact hup4 | with_reducible refine Upd.drew ?_ | with_reducible refine Upd.alloc ?_ _ | with_reducible refine Upd.setCell ?_ (by first | (simp; done) | (simp; omega)) _)))
          (first
          | ((with_reducible refine (HDO.out _ ((Upd.refl [] wr).alloc _).drew).mono ?_); rintro x w4 ⟨al1, ao1, cl1, co1, e1, L1, k1, O1, had1, rfl, hu4, hl4, ho4, hr4⟩; have hup4 : Upd [b, kl, kc] wr w4 := (((Upd.refl [b, kl, kc] wr).alloc _).drew).trans hu4; have hy4 := Blk.upd (Blk.drew (Blk.new wr #[.slice none 0 0, .int .i64 0, .slice none 0 0, .bool false] 75)) hu4 (by simp only [List.mem_cons, List.not_mem_nil, or_false]; omega); have hyc4 := hy4.cell; have hyz4 := hy4.frozen; have hwl4 := hy4.lt)
          | ((with_reducible refine (HDO.out _ (Upd.refl [] wr).drew).mono ?_); rintro x w4 ⟨al1, ao1, cl1, co1, e1, L1, k1, O1, had1, rfl, hu4, hl4, ho4, hr4⟩; have hup4 : Upd [b, kl, kc] wr w4 := ((Upd.refl [b, kl, kc] wr).drew).trans hu4; have hs4 := hup4.size)
          | fail "no arm")
        · go_wp2_with fail
          go_meet
          case rel => exact ⟨w4.heap.size, e1, al1, ao1, cl1, co1, L1, k1, O1, had1, rfl, rfl, hup4.alloc _, by omega, Blk.new _ _ _, own_upd (L := []) hl4 ((Upd.refl _ _).alloc _) (by simp), own_upd (L := []) ho4 ((Upd.refl _ _).alloc _) (by simp), hr4.upd (Ls := []) ((Upd.refl _ _).alloc _) (by simp) (by simp) (by simp)⟩
        · obtain ⟨W6, e6, u6, b6⟩ := set4 hy4 (.slice al1 L1.length cl1) (.int .i64 k1) (.slice ao1 O1.length co1) (.bool had1)
          rw [e6]
          go_wp2_with fail
          go_meet
          case rel => exact ⟨wr.heap.size, e1, al1, ao1, cl1, co1, L1, k1, O1, had1, rfl, rfl, hup4.trans' u6 (by intro i hi; simp only [List.mem_cons, List.not_mem_nil, or_false] at hi; omega), by omega, b6, own_upd hl4 u6 (fun i hi hm => by
            simp only [List.mem_cons, List.not_mem_nil, or_false] at hm
            subst hm
            exact own_ne_any hl4 hy4 (by decide) _ hi rfl), own_upd ho4 u6 (fun i hi hm => by
            simp only [List.mem_cons, List.not_mem_nil, or_false] at hm
            subst hm
            exact own_ne_any ho4 hy4 (by decide) _ hi rfl), hr4.upd u6 (by simp; omega) (by simp; omega) (by simp; omega)⟩
      case rest =>
        obtain ⟨ky, e, al1, ao1, cl1, co1, L1, k1, O1, had1, rfl, rfl, hup, hkyx, hby, hl4, ho4, hr4⟩ := hcut
        have hB := HB.out
        have hK := HK.out
        obtain ⟨D', hf', hD', hnear, hr'⟩ := hr4
        have hnf := hnear.few HFF.out.1 HFF.out.2 (by omega)
        rcases hr' with ⟨rfl, g', n', v', hL', hC', hlv', hg', hv', hwh⟩ | ⟨hz', _⟩
        rotate_left
        · exact absurd HZ.out hz'
        have hz' : D'.fail = 0 := by have h1 := base_fail hlv'; have h2 := HZ.out; omega
        have HU4 := hd (HU.out.trans' hup (by intro i hi; simp only [List.mem_cons, List.not_mem_nil, or_false] at hi; omega))
        have HBX4 := hd (HBX.out.upd hup (by obtain ⟨h1, h2, h3⟩ := HTR.out; simp only [List.mem_cons, List.not_mem_nil, or_false, not_or]; exact ⟨h1, h2, h3⟩))
        have HBY := hd hby
        have HVL := hd hl4
        have HVO := hd ho4
        have HD4 := hd hD'
        have HL4 := hd hL'
        have HC4 := hd hC'
        have HLV := hd hlv'
        have HFW := hd hnf
        have HWH := hd (show (kind = 2 ∧ g' = g + 1) ∨ (kind ≠ 2 ∧ g' = g ∧ ∃ Q, L1 = L ++ Q) by
          rcases hwh with ⟨h1, h2, h3⟩ | ⟨h1, h2, h3⟩ | ⟨h1, h2, h3, h4⟩
          · exact .inr ⟨by omega, h3, [], by simpa using h2⟩
          · exact .inl ⟨h1, h3⟩
          · exact .inr ⟨h2, h4, _, h3⟩)
        have HZ4 := hd hz'
        have HGV4 := hd (show g' ≤ a + 1 ∧ v' ≤ a + 1 by have := HGV.out; omega)
        have HKY := hd hkyx
        have k0 := (HKS.out _ hup).2.1
        clear hup hby hl4 ho4 hf' hD' hL' hC' hlv' hnear hnf hwh hz' hg' hv' HDO HKS HU HBX n0 n1 n2 hxc HGV HZ HVV hbl hkl hcl hxl
        go_upto_region 15 with fail
        go_cut [61] (fun s61 wx => s61 = .bool (decide (kind = 2)) ∧ wx = wc)
        case first =>
          by_cases hk2 : kind = 2
          · subst hk2
            go_wp2_with fail
            go_meet
            case rel => exact ⟨rfl, rfl⟩
          · have hk2' : (kind == 2) = false := by simpa using hk2
            have hk3 : decide (kind = 2) = false := by simpa using hk2
            have HK3 := hd hk3
            clear hk2 hk3
            go_wp2_with fail
            go_meet
            case rel => exact ⟨by rw [HK3.out], rfl⟩
        case rest =>
          obtain ⟨rfl, rfl⟩ := hcut
          have ewc : ∃ wc', wc' = wc := ⟨_, rfl⟩
          obtain ⟨wc', ewc⟩ := ewc
          go_upto_if 61 with fail
          go_cut [8, 9] (fun s8 s9 wx => ∃ (P Q : List (List UInt8)) (ap : Option Addr) (cp : Nat), L1 = P ++ Q ∧ s8 = .int .u64 g' ∧ s9 = .int .i64 (encL g' P).length ∧ Upd [kx] wc wx ∧ Blk wx kx #[.slice ap P.length cp, .int .i64 k, .slice ao O.length co, .bool had] 75)
          case first =>
            rcases HWH.out with ⟨h1, rfl⟩ | ⟨h1, rfl, Q, h2⟩
            · have hk3 : decide (kind = 2) = true := by simpa using h1
              rw [hk3]
              have hxc := HBX4.out.cell
              have hxz := HBX4.out.frozen
              have e5 : ∃ W5, _ = W5 ∧ Upd [kx] _ W5 ∧ Blk W5 kx _ _ := ⟨_, rfl, (Upd.refl [kx] _).setCell (by simp) _, HBX4.out.set 0 (.slice none 0 0)⟩
              obtain ⟨W5, hW5, hu5, hb5⟩ := e5
              have HU5 := hd hu5
              have HB5 := hd hb5
              have HW5 := hd hW5
              clear hk3 hu5 hb5 hW5
              go_wp2_with fail
              go_meet
              case rel =>
                rw [HW5.out]
                exact ⟨[], L1, none, 0, rfl, by (have := HGV4.out; refine congrArg _ ?_; rw [IntKind.wrap_u64]; omega), rfl, HU5.out, HB5.out⟩
            · have hk3 : decide (kind = 2) = false := by simpa using h1
              rw [hk3]
              clear hk3
              go_wp2_with fail
              go_meet
              case rel => exact ⟨L, Q, al, cl, h2, rfl, rfl, Upd.refl _ _, HBX4.out⟩
          case rest =>
            subst ewc
            obtain ⟨P, Q, ap, cp, hPQ, rfl, rfl, hu5, hbx5⟩ := hcut
            obtain ⟨t1, t2, t3⟩ := HTR.out
            have hrow : ∀ vv X, StrRow w.heap.size wc' vv X → StrRow w.heap.size wc vv X := fun vv X h => own_upd h hu5 (fun i hi hm => by
              simp only [List.mem_cons, List.not_mem_nil, or_false] at hm
              subst hm
              exact own_ne_any h HBX4.out (by decide) _ hi rfl)
            have HVL5 := hd (hrow _ _ HVL.out)
            have HVO5 := hd (hrow _ _ HVO.out)
            have HU5 := hd (HU4.out.trans' hu5 (by intro i hi; have := HKX.out; simp only [List.mem_cons, List.not_mem_nil, or_false] at hi; omega))
            have HBY5 := hd (HBY.out.upd hu5 (by have := HKY.out; simpa using this))
            have HD5 := hd (HD4.out.upd hu5 (by simpa using Ne.symm t1))
            have HL5 := hd (HL4.out.upd hu5 (by simpa using Ne.symm t2))
            have HC5 := hd (HC4.out.upd hu5 (by simpa using Ne.symm t3))
            have HBX5 := hd hbx5
            have HPQ := hd hPQ
            have hxc := hbx5.cell
            have hyc := HBY5.out.cell
            have hll : L1.length = P.length + Q.length := by rw [hPQ, List.length_append]
            clear hrow t1 t2 t3 hu5 hbx5 HU4 HBX4 HBY HVL HVO HD4 HL4 HC4 k0 HWH
            go_upto_region 18 with fail
            go_cut [70, 71, 72] (fun s70 s71 s72 wx => ∃ (aq : Option Addr) (cq : Nat), s70 = .slice aq Q.length cq ∧ s71 = .int .i64 Q.length ∧ s72 = .int .i64 0 ∧ TxsAt wc s70 Q ∧ wx = wc)
            case first =>
              have h18 : (P.length : Int) ≤ (L1.length : Int) := by omega
              obtain ⟨a', c', hh, hc1, hc2, hcase⟩ := own_open2 HVL5.out
              simp only [Value.slice.injEq] at hh
              obtain ⟨rfl, -, rfl⟩ := hh
              have h19 : (L1.length : Int) ≤ (cl1 : Int) := by omega
              rcases hcase with ⟨rfl, rfl⟩ | ⟨gl, rfl⟩
              · have hP0 : P.length = 0 := by omega
                have hQ0 : Q.length = 0 := by omega
                have hQe : Q = [] := List.eq_nil_of_length_eq_zero hQ0
                subst hQe
                go_wp2_with fail
                go_meet
                case rel => exact ⟨none, 0, rfl, rfl, rfl, ⟨none, 0, rfl, by simp, by omega, fun h => absurd h (by simp)⟩, rfl⟩
              · have htx := row_strs HVL5.out
                rw [hPQ] at htx
                have HTX := hd htx.drop
                have HL0 := hd (fun (e : cl1 = P.length) => (show Q = [] from List.eq_nil_of_length_eq_zero (by omega)))
                clear htx
                go_wp2_with fail
                · go_meet
                  case rel => exact ⟨_, _, rfl, rfl, rfl, ⟨_, _, rfl, by rw [HL0.out ‹_›]; simp, by omega, fun h0 => absurd h0 (by rw [HL0.out ‹_›]; simp)⟩, rfl⟩
                · go_meet
                  case rel => exact ⟨_, _, rfl, rfl, rfl, HTX.out, rfl⟩
            case rest =>
              obtain ⟨aq, cq, rfl, rfl, rfl, htq, rfl⟩ := hcut
              have HTQ := hd htq
              have HLL := hd hll
              clear htq hxc hyc hll hPQ
              go_upto_block 2 with fail
              go_cut [9] (fun s9 wx => s9 = .int .i64 (encL g' L1).length ∧ Upd [] wc wx)
              case first =>
                go_wp2_with fail
                go_loopw [9, 72] (fun s9 s72 wr2 => ∃ t : Nat, s72 = .int .i64 t ∧ t ≤ Q.length ∧ s9 = .int .i64 (encL g' (P ++ Q.take t)).length ∧ Upd [] wc wr2) (fun _ s72 _ => Q.length - (intOf s72).toNat)
                case atStart => exact ⟨0, rfl, by omega, by simp, Upd.refl _ _⟩
                case round =>
                  obtain ⟨t, rfl, ht, rfl, huq⟩ := hrel
                  have HUQ := hd huq
                  clear huq
                  by_cases htq : t < Q.length
                  · have htq' : (t : Int) < (Q.length : Int) := by omega
                    obtain ⟨aq', cq', hh, h1, h2, h3⟩ := HTQ.out
                    simp only [Value.slice.injEq] at hh
                    obtain ⟨rfl, -, rfl⟩ := hh
                    obtain ⟨kq, oq, rfl, hkq, hcq⟩ := h3 (by omega)
                    have c0 : ∀ W, Upd [] wc W → W.cell? ⟨kq, oq + t, none⟩ = some (.string (txt Q[t])) := fun W hu => by rw [← hcq t htq]; exact World.cell?_of_block (hu.block kq hkq (by simp))
                    have q0 := c0 _ HUQ.out
                    have hT : Q[t].length ≤ 40 := HFW.out.1.2 _ (by rw [HPQ.out]; exact List.mem_append_right _ (List.getElem_mem _))
                    have hen := enc_next g' P Q t htq
                    have hmx : (encL g' (P ++ Q.take (t + 1))).length ≤ 20000 := by
                      have h5 : Few (a + 6 + 1) (P ++ Q.take (t + 1)) := ⟨by have := HFW.out.1.1; have := HLL.out; rw [List.length_append, List.length_take]; omega, fun u hu => HFW.out.1.2 u (by
                        rw [HPQ.out]
                        rcases List.mem_append.1 hu with h | h
                        · exact List.mem_append_left _ h
                        · exact List.mem_append_right _ (List.mem_of_mem_take h))⟩
                      have := small_enc g' _ h5.2
                      have := h5.1
                      omega
                    clear c0 hcq h3
                    obtain ⟨E1, hE1⟩ : ∃ E1, (encL g' (P ++ Q.take (t + 1))).length = E1 := ⟨_, rfl⟩
                    rw [hE1] at hen hmx
                    have HE1 := hd hE1
                    clear hE1
                    generalize (encL g' (P ++ Q.take t)).length = E0 at *
                    generalize Q[t] = T at *
                    have hul := uBytes_le g'
                    have hnl := nBytes_le (T.length : Int)
                    have hln : (uBytes g' ++ sBytes (txt T)).length ≤ 1048576 := by rw [sBytes_txt]; simp only [List.length_append]; omega
                    have HSP := hd (show spellL g' T = frameL 1 (uBytes g' ++ sBytes (txt T)) by rw [sBytes_txt]; rfl)
                    have hs1 := add_txt' (uBytes g') (sBytes (txt T)) (by rw [List.length_append] at hln; omega)
                    have HF := hd (fun W => refFrame_any (uBytes g' ++ sBytes (txt T)) W hln)
                    have HS := hd (fun W => refS_any (txt T) W (by rw [txt_size]; omega))
                    have HUU := hd (fun W => refU_any g' W (by have := HGV4.out; omega))
                    rw [HSP.out] at hen
                    generalize frameL 1 (uBytes g' ++ sBytes (txt T)) = fr at *
                    have hfs := txt_size fr
                    generalize sBytes (txt T) = sb at *
                    clear hln hul hnl
                    go_wp2_with fail
                    refine (HUU.out _).mono ?_
                    rintro x w1 ⟨rfl, hv1⟩
                    go_wp2_with fail
                    refine (HS.out w1).mono ?_
                    rintro x w2 ⟨rfl, hv2⟩
                    go_wp2_with fail
                    refine (HF.out w2).mono ?_
                    rintro x w3 ⟨rfl, hv3⟩
                    go_wp2_with fail
                    go_roundw
                    case rel => exact ⟨t + 1, by go_num, by omega, by (rw [HE1.out]; go_num), HUQ.out.trans ((hv1.trans hv2).trans hv3)⟩
                    case measure => simp [intOf]; omega
                  · have htq' : ¬ (t : Int) < (Q.length : Int) := by omega
                    have htl : Q.take t = Q := List.take_of_length_le (by omega)
                    rw [htl]
                    clear htl
                    go_wp2_with fail
                    go_meet
                    case rel => exact ⟨by rw [HPQ.out], HUQ.out⟩
              case rest =>
                obtain ⟨rfl, hu6⟩ := hcut
                have HU6 := hd (HU5.out.trans hu6)
                have HVL6 := hd (own_upd HVL5.out hu6 (by simp))
                have HVO6 := hd (own_upd HVO5.out hu6 (by simp))
                have hby6 := HBY5.out.upd hu6 (by simp)
                have HD6 := hd (HD5.out.upd hu6 (by simp))
                have HL6 := hd (HL5.out.upd hu6 (by simp))
                have HC6 := hd (HC5.out.upd hu6 (by simp))
                have hbx6 := HBX5.out.upd hu6 (by simp)
                obtain ⟨W7, e7, u7, b7⟩ := set4 hbx6 (.slice al1 L1.length cl1) (.int .i64 k1) (.slice ao1 O1.length co1) (.bool had1)
                have hrow : ∀ vv X, StrRow w.heap.size wc vv X → StrRow w.heap.size W7 vv X := fun vv X h => own_upd h u7 (fun i hi hm => by
                  simp only [List.mem_cons, List.not_mem_nil, or_false] at hm
                  subst hm
                  exact own_ne_any h hbx6 (by decide) _ hi rfl)
                have HVL7 := hd (hrow _ _ HVL6.out)
                have HVO7 := hd (hrow _ _ HVO6.out)
                obtain ⟨t1, t2, t3⟩ := HTR.out
                have hKX := HKX.out
                have HU7 := hd (HU6.out.trans' u7 (by intro i hi; simp only [List.mem_cons, List.not_mem_nil, or_false] at hi; omega))
                have HD7 := hd (HD6.out.upd u7 (by simpa using Ne.symm t1))
                have HL7 := hd (HL6.out.upd u7 (by simpa using Ne.symm t2))
                have HC7 := hd (HC6.out.upd u7 (by simpa using Ne.symm t3))
                have HBX7 := hd b7
                have hxc := hbx6.cell
                have hxz := hbx6.frozen
                have hyc := hby6.cell
                have HOP := hd (wopen_live big_caps (by decide) HLV.out (few_bnd HFW.out.1 (by omega) (by have := HGV4.out; omega) (by have := HGV4.out; omega)) (by have := few_fit HFW.out.1 (g' + 1) (by omega); omega) b W7 HD7.out)
                clear hu6 hby6 hbx6 u7 b7 hrow t1 t2 t3 HU5 HVL5 HVO5 HBY5 HD5 HL5 HC5 HBX5 HTQ HU6 HVL6 HVO6 HD6 HL6 HC6
                go_wp2_with fail
                refine HOP.out.mono ?_
                rintro e w8 ⟨⟨kl2, kc2, vl2, rfl, hkl2, hkc2, hl8, hc8, hv8⟩, hu8, hd8⟩
                have hs7 := HU7.out.size
                obtain ⟨a8, c8, rfl, -⟩ := own_open hv8
                have HU8 := hd (HU7.out.trans' hu8 (by intro i hi; simp only [List.mem_cons, List.not_mem_nil, or_false] at hi; omega))
                have HRUN8 := hd (show RunBlk w.heap.size kx w8 L1 k1 O1 had1 from RunBlk.upd ⟨_, _, HBX7.out, HVL7.out, HVO7.out⟩ hu8 (by simpa using HTR.out.1) (alone HD7.out))
                have HBX8 := hd (HBX7.out.upd hu8 (by simpa using HTR.out.1))
                have HVL8 := hd (own_upd HVL7.out hu8 (alone HD7.out _ _ HVL7.out))
                have hnl : kl ∉ [b] := by simpa using blk_ne HL7.out HD7.out (by decide)
                have hnc : kc ∉ [b] := by simpa using blk_ne HC7.out HD7.out (by decide)
                have HD8 := hd hd8
                have HL8 := hd (HL7.out.upd hu8 hnl)
                have HC8 := hd (HC7.out.upd hu8 hnc)
                have HM8 := hd hl8
                have HV8 := hd hv8
                clear hu8 hd8 hl8 hc8 hv8 hkl2 hkc2 hnl hnc HU7 HVL7 HVO7 HD7 HL7 HC7 HBX7 HOP hxc hxz hyc e7
                have hkc8 : ∀ (y : Later [] w8) o, y.world.cell? ⟨kx, o, none⟩ = #[.slice al1 L1.length cl1, .int .i64 k1, .slice ao1 O1.length co1, .bool had1][o]? := fun y => (y.blk HBX8.out (by simp)).cell
                have HSM := hd (fun y : Later [] w8 => wsame_any L1 L1 (.slice a8 L1.length c8) (.slice al1 L1.length cl1) y.world ((row_strs HV8.out).upd y.upd) ((row_strs HVL8.out).upd y.upd))
                have HDE := hd (show decide (L1 = L1) = true by simp)
                rw [HDE.out] at HSM
                have HG1 := hd (fun y : Later [] w8 => (wgen_any kl kc b (lgOf g' n' L1) y.world (HL8.out.upd y.upd (by simp))).mono (R' := fun e w' => e = .returned (.int .u64 g') ∧ Upd [] y.world w') (by rintro e w' ⟨rfl, rfl⟩; exact ⟨rfl, Upd.refl _ _⟩))
                have HZ1 := hd (fun y : Later [] w8 => (wsize_any kl kc b (lgOf g' n' L1) y.world (HL8.out.upd y.upd (by simp))).mono (R' := fun e w' => e = .returned (.int .i64 (encL g' L1).length) ∧ Upd [] y.world w') (by rintro e w' ⟨rfl, rfl⟩; exact ⟨rfl, Upd.refl _ _⟩))
                have HR1 := hd (fun y : Later [] w8 => (wrecs_any kl kc b (lgOf g' n' L1) y.world (HL8.out.upd y.upd (by simp))).mono (R' := fun e w' => e = .returned (.int .i64 L1.length) ∧ Upd [] y.world w') (by rintro e w' ⟨rfl, rfl⟩; exact ⟨rfl, Upd.refl _ _⟩))
                have HG2 := hd (fun y : Later [] w8 => (wgen_any kl2 kc2 b (lgOf g' n' L1) y.world (HM8.out.upd y.upd (by simp))).mono (R' := fun e w' => e = .returned (.int .u64 g') ∧ Upd [] y.world w') (by rintro e w' ⟨rfl, rfl⟩; exact ⟨rfl, Upd.refl _ _⟩))
                have HZ2 := hd (fun y : Later [] w8 => (wsize_any kl2 kc2 b (lgOf g' n' L1) y.world (HM8.out.upd y.upd (by simp))).mono (R' := fun e w' => e = .returned (.int .i64 (encL g' L1).length) ∧ Upd [] y.world w') (by rintro e w' ⟨rfl, rfl⟩; exact ⟨rfl, Upd.refl _ _⟩))
                have HEX := hd (show ∃ q : Nat, q = (encL g' L1).length from ⟨_, rfl⟩)
                obtain ⟨q, hq⟩ := HEX.out
                rw [← hq] at HZ1 HZ2 ⊢
                have HQ := hd hq
                clear hq HEX
                go_upto_region 25 with fail
                refine wp_region_later [] (by kernel_rfl) (by kernel_rfl) ?_
                repeat (go_big_quiet_step (first
                  | (go_at_call 42; refine later_call (HSM.out _))
                  | (go_at_call 46; refine later_call (HR1.out _))
                  | (go_at_call 41; first | (with_reducible refine later_call (HG1.out _)) | (with_reducible refine later_call (HG2.out _)))
                  | (go_at_call 47; first | (with_reducible refine later_call (HZ1.out _)) | (with_reducible refine later_call (HZ2.out _)))))
                refine wpQuiet_nil ?_
                intro W9 hu9
                have HU9 := hd (HU8.out.trans hu9)
                have HP9 := hd (show PIn w.heap.size b kl kc kx (a + 1) g' L1 W9 from ⟨D', n', k1, v', O1, had1, HD8.out.upd hu9 (by simp), HZ4.out, HL8.out.upd hu9 (by simp), HC8.out.upd hu9 (by simp), HLV.out, HRUN8.out.upd hu9 (by simp) (fun _ _ _ _ _ => by simp), HFW.out.1.mono (by omega), HFW.out.2.mono (by omega), HGV4.out.1, HGV4.out.2⟩)
                clear hkc8 HSM HG1 HZ1 HR1 HG2 HZ2 HDE hu9
                go_wp2_with fail
                go_roundw
                case rel => exact ⟨a + 1, g', L1, rfl, by rw [HQ.out], by go_num, by omega, HU9.out, HP9.out⟩
                case measure => simp [intOf]; omega
    · have HU := hd hu
      clear hu ho
      by_cases hn : a < n
      · have hn' : (a : Int) < (n : Int) := by omega
        have h30 : ¬ (a : Int) < 30 := by omega
        go_wp2_with fail
        go_ret
        exact ⟨rfl, HU.out⟩
      · have hn' : ¬ (a : Int) < (n : Int) := by omega
        go_wp2_with fail
        go_ret
        exact ⟨rfl, HU.out⟩
end Go.Proofs.Ytjaoiaknglnomaa
