/-
  The law LocksApart of layer 22, walked: it answers true. Conditions: the calls read as calls; the library's variables hold what they are laid to hold.
-/
import Derived.Test.YtpniggmdokkkcaaGreatDoorMb22
import Derived.Test.YtpniggmdokkkcaaGreatDoorMb18
import Derived.BigRegion
set_option linter.unusedVariables false
set_option linter.unusedSimpArgs false
set_option maxRecDepth 100000
namespace Go.Proofs.YtpniggmdokkkcaaGreatDoor
open Go.RowKit

/-- What the law knows behind a call. -/
structure ApAt (w : World) (k kx n k' m : Nat) (d : BkS) (wx : World) (vc vd : Value) (d5 : BkS) : Prop where
  st : ∃ vh5 vw5 rh5 rw5 lh5 lw5 last5, PSt w k kx n wx vh5 vw5 rh5 rw5 d5 lh5 lw5 last5
  was : BookAt m wx k' vc vd d
  mv : Moves d d5

set_option maxHeartbeats 64000000 in
theorem apart_law (last : Int) (acts : List ActS) (va : Value) (w : World) (hD : Door w) (ha : ActsAt w va acts) (h0 : 0 ≤ last) (h1 : last ≤ 18446744073709551615) :
    Calls Tryz.prog 4 #[.int .u64 last, va] w fun e w' => e = .returned (.bool true) ∧ Upd [] w w' := by
  have HD := hd hD
  have HL := hd (door_lt hD)
  have HA := hd ha
  have HAW := hd (awake22_any w hD)
  have HNW := hd (fun W => new_any last W)
  have HWF := hd (wf_0 last h0 h1)
  obtain ⟨aa, ac, rfl, -⟩ := ha
  clear hD h0 h1
  go_enter Tryz.func4, Tryz.ntmps4
  go_wp2_with fail
  refine HAW.out.mono ?_
  rintro e w1 ⟨rfl, hu1⟩
  have HU1 := hd hu1
  clear hu1
  go_wp2_with fail
  refine (HNW.out w1).mono ?_
  rintro e w2 ⟨rfl, hu2, hb2⟩
  have hs1 := HU1.out.size
  have HU2 := hd (HU1.out.trans hu2)
  obtain ⟨k, hk⟩ : ∃ k, w1.heap.size = k := ⟨_, rfl⟩
  rw [hk] at hb2 hs1 ⊢
  have HB2 := hd hb2
  have HK := hd hs1
  have e2 := one_lk w2 #[.slice none 0 0, .slice none 0 0, .int .u64 last] 29
  clear hu2 hb2 hs1 hk
  go_upto_region 5 with fail
  obtain ⟨W3, kx, hkx, hW3, hu3, hb3⟩ := e2
  rw [hW3, hkx]
  have HU3 := hd (HU2.out.trans hu3)
  have HKX := hd (show w.heap.size ≤ kx by have := HU2.out.size; omega)
  have HP0 := hd (show ∃ vh vw rh rw' d lh lw lst, PSt w k kx 0 W3 vh vw rh rw' d lh lw lst ∧ Fair d ∧ d.last = last from ⟨_, _, _, _, ⟨[], [], last⟩, [], [], last, by
    have hb := HB2.out.later hu3
    exact ⟨⟨hb.blk, own_mono hb.held HK.out, own_mono hb.waits HK.out, hb.apart⟩, hb3, ⟨.nil, rfl, rfl, List.Pairwise.nil, List.Pairwise.nil, by simp [fsts]⟩, rnil _ _, rnil _ _, HU3.out, fun g hg => by have := (foot_nil k g).1 hg; have := HK.out; omega, HKX.out, HWF.out, by simp [tot], by intro y hy; simp at hy⟩, fair_nil last, rfl⟩)
  clear hkx hW3 hu3 hb3 HB2
  go_wp2_with fail
  go_loopw [7, 8, 9, 10, 11, 12, 13, 15, 16, 17, 18, 19, 20, 22, 24, 26, 27, 28, 29, 30, 31, 32] (fun s7 s8 _ _ _ _ _ _ _ _ _ _ _ _ _ _ _ _ _ _ _ _ wr => ∃ t : Nat, s8 = .int .i64 t ∧ t ≤ acts.length ∧ t ≤ 60 ∧ ∃ vh vw rh rw' d lh lw lst, PSt w k kx t wr vh vw rh rw' d lh lw lst ∧ Fair d ∧ s7 = .int .u64 d.last) (fun _ s8 _ _ _ _ _ _ _ _ _ _ _ _ _ _ _ _ _ _ _ _ _ => 60 - (intOf s8).toNat)
  case atStart =>
    obtain ⟨vh, vw, rh, rw', d, lh, lw, lst, q1, q2, q3⟩ := HP0.out
    exact ⟨0, rfl, by omega, by omega, vh, vw, rh, rw', d, lh, lw, lst, q1, q2, by rw [q3]⟩
  case round =>
    obtain ⟨t, rfl, hta, ht60, vh, vw, rh, rw', d, lh, lw, lst, hP, hFr, rfl⟩ := hrel
    have HP := hd hP
    have HFR := hd hFr
    clear hP hFr HP0
    by_cases htn : t < acts.length
    · by_cases ht4 : t < 60
      · have htn' : (t : Int) < (acts.length : Int) := by omega
        have ht4' : (t : Int) < 60 := by omega
        have hfw := HP.out.wf.few
        have hl1 : d.held.length ≤ 1024 := by omega
        have hl2 : d.waits.length ≤ 1024 := by omega
        have HCL := hd (bclone_any wr HP.out.book hl1 hl2)
        clear hfw hl1 hl2
        go_upto_region 11 with fail
        go_wp2_with fail
        refine HCL.out.mono ?_
        rintro e w4 ⟨k', vc, vd, rfl, hu4, hb4, hk4⟩
        have HP4 := hd (HP.out.later hu4)
        have HB4 := hd hb4
        have HK4 := hd hk4
        have HKM := hd (show kx < wr.heap.size from HP.out.blk.lt)
        have HFM := hd (fun i (hi : i ∈ foot k vh vw) => HP.out.book.lt i hi)
        generalize wr.heap.size = m at *
        obtain ⟨aa', ac', e, -, -, hact⟩ := HA.out.later HP4.out.upd
        simp only [Value.slice.injEq] at e
        obtain ⟨rfl, -, rfl⟩ := e
        obtain ⟨ga, oa, rfl, hac2⟩ := hact (by omega)
        obtain ⟨b1, b2, b3, hga, pa, pc, htx, q0, q1, q2, q3, q4⟩ := hac2 t htn
        have hxc := HP4.out.blk.cell
        have hxl := HP4.out.blk.lt
        have HDO := hd (fun W (hu : Upd [] w4 W) => do22_any lst acts[t].kind acts[t].ses acts[t].parts acts[t].excl acts[t].wait W (HP4.out.book.later hu) (HD.out.later (HP4.out.upd.trans hu)) HP4.out.wf HP4.out.ses HP4.out.rel (HP4.out.rh.later hu) (HP4.out.rw'.later hu) (htx.upd hu) b3 (fun hm => by have := HP4.out.far _ hm; have := HL.out; omega) (fun hm => by have := HP4.out.far _ hm; have := HL.out; omega) (by have := HP4.out.upd.size; have := hu.size; omega) (by have := HP4.out.few; omega) b1 b2)
        obtain ⟨ra, rc, rfl, -⟩ := own_open HP.out.rh.own
        obtain ⟨sa, sc, rfl, -⟩ := own_open HP.out.rw'.own
        clear hu4 hb4 hk4 htx b1 b2 b3 hact hac2 HCL HP
        generalize acts[t] = act at *
        generalize act.parts.length = pn at *
        go_upto_region 12 with fail
        go_cut [9] (fun s9 wx => s9 = .pointer (some ⟨k', 0, none⟩) ∧ ∃ d5, ApAt w k kx (t + 1) k' m d wx vc vd d5)
        case first =>
          go_region_with (first
            | ((with_reducible refine (HDO.out _ (Upd.refl [] w4).drew).mono ?_); rintro r w5 ⟨d5, vh5, vw5, rh5, rw5, lh5, lw5, last5, rfl, hb5, hR5, hh5, hw5, hu5, hf5, hwf5, ht5, hs5, hcl5⟩; have hx5 := HP4.out.blk.upd ((((Upd.refl [] w4).drew).mono (M := foot k vh vw) (by simp)).trans hu5) HP4.out.kxf; have hx5c := hx5.cell; have hx5z := hx5.frozen; have hx5l := hx5.lt; have HB5 := hd hb5; have HR5 := hd hR5; have HH5 := hd hh5; have HWW5 := hd hw5; have HU5 := hd ((((Upd.refl [] w4).drew).mono (M := foot k vh vw) (by simp)).trans hu5); have HF5 := hd hf5; have HWF5 := hd (And.intro hwf5 (And.intro ht5 (And.intro hs5 hcl5))); obtain ⟨i1, j1, rfl, -⟩ := own_open hh5.own; obtain ⟨i2, j2, rfl, -⟩ := own_open hw5.own; clear hx5 hb5 hR5 hh5 hw5 hu5 hf5 hwf5 ht5 hs5 hcl5)
            | fail "no arm")
          all_goals
            go_wp2_with fail
            go_meet
            case rel =>
              have hn := HP4.out.next HB5.out HR5.out HH5.out HWW5.out HU5.out HF5.out HWF5.out.1 HWF5.out.2.1 HWF5.out.2.2.1 rfl
              have hk9 := up3 (k := kx) (Upd.refl [kx] w5) (.inl (by simp)) (.slice i1 lh5.length j1) (.slice i2 lw5.length j2) (.int .u64 last5)
              exact ⟨rfl, d5, ⟨_, _, _, _, _, _, _, hn⟩, book_off (book_off HB4.out HFM.out HK4.out HU5.out) (fun i hi => by have := HKM.out; simp only [List.mem_cons, List.not_mem_nil, or_false] at hi; omega) HK4.out hk9, call_moves HP4.out.rel HFR.out HWF5.out.2.2.2⟩
        case rest =>
          obtain ⟨rfl, d5, hap⟩ := hcut
          rename World => W5
          obtain ⟨⟨vh5, vw5, rh5, rw5, lh5, lw5, last5, hP5⟩, hwas, hmv⟩ := hap
          have HP5 := hd hP5
          have HMV := hd hmv
          have hfw := hP5.wf.few
          have hfd := HP4.out.wf.few
          have hl1 : d5.held.length ≤ 1024 := by omega
          have hl2 : d5.waits.length ≤ 1024 := by omega
          have HHE := hd (held_any W5 hP5.book hl1)
          have HWE := hd (fun W (hu : Upd [] W5 W) => waits_any W (hP5.book.later hu) hl2)
          have HLA := hd (fun W (hu : Upd [] W5 W) => last_any W (hP5.book.later hu))
          have HFI := hd (fun (s : Int) (p : List (List UInt8)) W (hu : Upd [] W5 W) => find_any s p W (hP5.book.later hu) hl1 hl2)
          have HFW := hd (fun (s : Int) (p : List (List UInt8)) W (hu : Upd [] W5 W) => find_any s p W (hwas.later hu) (by omega) (by omega))
          have HWW := hd (fun W (hu : Upd [] W5 W) => waits_any W (hwas.later hu) (by omega))
          have HFE := hd (And.intro hfw hfd)
          clear hP5 hwas hmv hfw hfd hl1 hl2 HDO hxc hxl q0 q1 q2 q3 q4 HB4 HFM HKM HK4
          go_wp2_with fail
          refine HHE.out.mono ?_
          rintro r w9 ⟨vs, rfl, hu9, ho9⟩
          have HU9 := hd hu9
          have HL9 := hd (row_lks ho9)
          obtain ⟨b9, m9, rfl, hc9, -⟩ := own_open ho9
          have HC9 := hd hc9
          clear hu9 ho9 hc9 HHE
          go_wp2_with fail
          refine (HWE.out _ HU9.out).mono ?_
          rintro r w10 ⟨vs, rfl, hu10, ho10⟩
          have HL10 := hd (HL9.out.later hu10)
          have HU10 := hd (HU9.out.trans hu10)
          have HM10 := hd (row_lks ho10)
          obtain ⟨b10, m10, rfl, hc10, -⟩ := own_open ho10
          have HC10 := hd hc10
          clear hu10 ho10 hc10 HWE HL9 HU9
          go_wp2_with fail
          go_loopw [12, 13, 15, 16, 17, 70] (fun _ _ _ _ _ s70 wr => ∃ j : Nat, s70 = .int .i64 j ∧ j ≤ d5.held.length ∧ Upd [] w10 wr) (fun _ _ _ _ _ s70 _ => d5.held.length - (intOf s70).toNat)
          case atStart => exact ⟨0, rfl, by omega, Upd.refl _ _⟩
          case round =>
            obtain ⟨j, rfl, hj, hu⟩ := hrel
            rename World => wj
            have HUJ := hd hu
            clear hu
            by_cases hjn : j < d5.held.length
            · have hjn' : (j : Int) < (d5.held.length : Int) := by omega
              have hjm : (j : Int) ≤ (m9 : Int) := by have := HC9.out; omega
              obtain ⟨g, rfl, hgl, c0, c1', c2', c3⟩ := lks_get HL10.out HUJ.out j hjn
              have e16 := one_lk wj #[.int .i64 d5.held[j].ses, .string (txt (textL d5.held[j].path)), .bool d5.held[j].excl, .int .u64 d5.held[j].tok] 42
              have hwr : IntKind.i64.wrap ((j : Int) + 1) = (j : Int) + 1 := by have := HFE.out.1; rw [IntKind.wrap_i64]; omega
              have HNC : Hd (∀ z ∈ d5.held, ∀ W, Calls Tryz.prog 14 #[d5.held[j].val, z.val] W fun e w' => e = .returned (.bool false) ∧ Upd [] W w') := hd (fun z hz W => by
                have h := clash_any d5.held[j] z W
                rw [HMV.out.fair.noconf _ (List.getElem_mem hjn) z hz] at h
                exact h)
              have HFQ := hd (fun W (hu : Upd [] W5 W) => HFW.out d5.held[j].ses d5.held[j].path W hu)
              have HFS := hd (HMV.out.fresh d5.held[j] (List.getElem_mem hjn))
              obtain ⟨Y, hY⟩ : ∃ Y, findB d ⟨d5.held[j].ses, d5.held[j].path, false, 0⟩ = Y := ⟨_, rfl⟩
              rw [hY] at HFQ HFS
              clear hY
              obtain ⟨⟨ys, yp, yx, yt⟩, n⟩ := Y
              unfold LkS.val at HFQ HNC
              simp only at HFQ HFS
              generalize d5.held[j] = y at *
              go_upto_region 17 with fail
              obtain ⟨Wy, ky, hky, hWy, huy, hby⟩ := e16
              rw [hWy, hky]
              have HUY := hd (HUJ.out.trans huy)
              have HBY := hd hby
              have hyc := hby.cell
              have hyl := hby.lt
              clear hky hWy huy hby c0 c1' c2' c3
              go_wp2_with fail
              go_loopw [15, 79] (fun _ s79 wr => ∃ u : Nat, s79 = .int .i64 u ∧ u ≤ j ∧ Upd [] Wy wr) (fun _ s79 _ => j - (intOf s79).toNat)
              case atStart => exact ⟨0, rfl, by omega, Upd.refl _ _⟩
              case round =>
                obtain ⟨u, rfl, hu, hup⟩ := hrel
                rename World => wu
                have HUU := hd hup
                have hyb := HBY.out.upd hup (by simp)
                have HYB := hd hyb
                clear hup hyc hyl
                by_cases hun : u < j
                · have hun' : (u : Int) < (j : Int) := by omega
                  have hul : u < d5.held.length := by omega
                  obtain ⟨g', e', hgl', c0, c1', c2', c3⟩ := lks_get HL10.out (HUY.out.trans HUU.out) u hul
                  simp only [Option.some.injEq, Addr.mk.injEq, and_true] at e'
                  subst e'
                  have e20 := one_lk wu #[.int .i64 d5.held[u].ses, .string (txt (textL d5.held[u].path)), .bool d5.held[u].excl, .int .u64 d5.held[u].tok] 42
                  have HNZ := hd (HNC.out d5.held[u] (List.getElem_mem hul))
                  have hwu : IntKind.i64.wrap ((u : Int) + 1) = (u : Int) + 1 := by have := HFE.out.1; rw [IntKind.wrap_i64]; omega
                  generalize d5.held[u] = z at *
                  go_upto_region 20 with fail
                  obtain ⟨Wz, kz, hkz, hWz, huz, hbz⟩ := e20
                  rw [hWz, hkz]
                  have HUZ := hd (HUU.out.trans huz)
                  have hyc := (HYB.out.upd huz (by simp)).cell
                  have hyl := (HYB.out.upd huz (by simp)).lt
                  have hzc := hbz.cell
                  have hzl := hbz.lt
                  clear hkz hWz huz hbz hyb c0 c1' c2' c3
                  go_wp2_with fail
                  refine (HNZ.out Wz).mono ?_
                  rintro r wv ⟨rfl, huv⟩
                  have HUV := hd (HUZ.out.trans huv)
                  clear huv hyc hyl hzc hzl
                  go_wp2_with fail
                  go_roundw
                  case rel => exact ⟨u + 1, by go_num, by omega, HUV.out⟩
                  case measure => simp [intOf]; omega
                · have hun' : ¬ (u : Int) < (j : Int) := by omega
                  have hyc := hyb.cell
                  have hyl := hyb.lt
                  clear hyb
                  go_wp2_with fail
                  refine (HFQ.out wu (HU10.out.trans (HUY.out.trans HUU.out))).mono ?_
                  rintro r wz ⟨rfl, huz⟩
                  have HUZ := hd (HUU.out.trans huz)
                  have hyb2 := HYB.out.upd huz (by simp)
                  have HYZ := hd hyb2
                  have e24 := one_lk wz #[.int .i64 ys, .string (txt (textL yp)), .bool yx, .int .u64 yt] 42
                  clear huz hyc hyl hyb2
                  go_upto_region 24 with fail
                  obtain ⟨Wv, kv, hkv, hWv, huv, hbv⟩ := e24
                  rw [hWv, hkv]
                  have HUV := hd (HUZ.out.trans huv)
                  have hyc := (HYZ.out.upd huv (by simp)).cell
                  have hyl := (HYZ.out.upd huv (by simp)).lt
                  clear hkv hWv huv hbv
                  by_cases hn0 : n = 0
                  · subst hn0
                    go_wp2_with fail
                    go_roundw
                    case rel => exact ⟨j + 1, by go_num, by omega, HUY.out.trans HUV.out⟩
                    case measure => simp [intOf]; omega
                  · have hn1 : (n != 0) = true := by simpa using hn0
                    have htl : ¬ (y.tok ≤ d.last) := by rcases HFS.out with h | h <;> omega
                    clear hn0
                    go_wp2_with fail
                    go_roundw
                    case rel => exact ⟨j + 1, by go_num, by omega, HUY.out.trans HUV.out⟩
                    case measure => simp [intOf]; omega
            · have hjn' : ¬ (j : Int) < (d5.held.length : Int) := by omega
              have HUE := hd (HU10.out.trans HUJ.out)
              have HL11 := hd (HL10.out.later HUJ.out)
              have HM11 := hd (HM10.out.later HUJ.out)
              clear HL10 HM10 HUJ
              go_wp2_with fail
              refine (HLA.out _ HUE.out).mono ?_
              rintro r w19 ⟨rfl, rfl⟩
              rename World => w19
              go_wp2_with fail
              go_loopw [18, 19, 20, 22, 24, 109] (fun _ _ _ _ _ s109 wr => ∃ j : Nat, s109 = .int .i64 j ∧ j ≤ d5.waits.length ∧ Upd [] w19 wr) (fun _ _ _ _ _ s109 _ => d5.waits.length - (intOf s109).toNat)
              case atStart => exact ⟨0, rfl, by omega, Upd.refl _ _⟩
              case round =>
                obtain ⟨j, rfl, hj, hu⟩ := hrel
                rename World => wj
                have HUJ := hd hu
                clear hu hjn hjn'
                by_cases hjn : j < d5.waits.length
                · have hjn' : (j : Int) < (d5.waits.length : Int) := by omega
                  have hjm : (j : Int) ≤ (m10 : Int) := by have := HC10.out; omega
                  obtain ⟨g, rfl, hgl, c0, c1', c2', c3⟩ := lks_get HM11.out HUJ.out j hjn
                  have e31 := one_lk wj #[.int .i64 d5.waits[j].ses, .string (txt (textL d5.waits[j].path)), .bool d5.waits[j].excl, .int .u64 d5.waits[j].tok] 42
                  have hwr : IntKind.i64.wrap ((j : Int) + 1) = (j : Int) + 1 := by have := HFE.out.1; rw [IntKind.wrap_i64]; omega
                  have HNC := hd (fun (z : LkS) W => clash_any d5.waits[j] z W)
                  have HND := hd (fun (hl : d5.last < 18446744073709551615) => needs_no (HMV.out.fair.needs hl) j hjn)
                  unfold LkS.val at HNC
                  generalize d5.waits[j] = y at *
                  go_upto_region 31 with fail
                  obtain ⟨Wy, ky, hky, hWy, huy, hby⟩ := e31
                  rw [hWy, hky]
                  have HUY := hd (HUJ.out.trans huy)
                  have HBY := hd hby
                  clear hky hWy huy hby c0 c1' c2' c3
                  go_wp2_with fail
                  go_loopw [20, 22, 116] (fun s20 _ s116 wr => ∃ u : Nat, s116 = .int .i64 u ∧ u ≤ d5.held.length ∧ s20 = .bool (!((d5.held.take u).any (conflB y))) ∧ Upd [] Wy wr) (fun _ _ s116 _ => d5.held.length - (intOf s116).toNat)
                  case atStart => exact ⟨0, rfl, by omega, rfl, Upd.refl _ _⟩
                  case round =>
                    obtain ⟨u, rfl, hu, rfl, hup⟩ := hrel
                    rename World => wu
                    have HUU := hd hup
                    have hyb := HBY.out.upd hup (by simp)
                    have HYB := hd hyb
                    clear hup
                    by_cases hun : u < d5.held.length
                    · have hun' : (u : Int) < (d5.held.length : Int) := by omega
                      obtain ⟨g', rfl, hgl', c0, c1', c2', c3⟩ := lks_get HL11.out (HUY.out.trans HUU.out) u hun
                      have e35 := one_lk wu #[.int .i64 d5.held[u].ses, .string (txt (textL d5.held[u].path)), .bool d5.held[u].excl, .int .u64 d5.held[u].tok] 42
                      have HNZ := hd (HNC.out d5.held[u])
                      have HTK := hd (show (d5.held.take (u + 1)).any (conflB y) = ((d5.held.take u).any (conflB y) || conflB y d5.held[u]) by rw [List.take_succ_eq_append_getElem hun, List.any_append]; simp)
                      have hwu : IntKind.i64.wrap ((u : Int) + 1) = (u : Int) + 1 := by have := HFE.out.1; rw [IntKind.wrap_i64]; omega
                      generalize d5.held[u] = z at *
                      generalize (d5.held.take u).any (conflB y) = fd at *
                      generalize conflB y z = cf at *
                      go_upto_region 35 with fail
                      obtain ⟨Wz, kz, hkz, hWz, huz, hbz⟩ := e35
                      rw [hWz, hkz]
                      have HUZ := hd (HUU.out.trans huz)
                      have hyc := (HYB.out.upd huz (by simp)).cell
                      have hyl := (HYB.out.upd huz (by simp)).lt
                      have hzc := hbz.cell
                      have hzl := hbz.lt
                      clear hkz hWz huz hbz hyb c0 c1' c2' c3
                      rcases fd with _ | _
                      · go_wp2_with fail
                        refine (HNZ.out Wz).mono ?_
                        rintro r wv ⟨rfl, huv⟩
                        have HUV := hd (HUZ.out.trans huv)
                        clear huv hyc hyl hzc hzl
                        rcases cf with _ | _
                        · go_wp2_with fail
                          go_roundw
                          case rel => exact ⟨u + 1, by go_num, by omega, by rw [HTK.out]; rfl, HUV.out⟩
                          case measure => simp [intOf]; omega
                        · go_wp2_with fail
                          go_roundw
                          case rel => exact ⟨u + 1, by go_num, by omega, by rw [HTK.out]; rfl, HUV.out⟩
                          case measure => simp [intOf]; omega
                      · go_wp2_with fail
                        go_roundw
                        case rel => exact ⟨u + 1, by go_num, by omega, by rw [HTK.out]; rfl, HUZ.out⟩
                        case measure => simp [intOf]; omega
                    · have hun' : ¬ (u : Int) < (d5.held.length : Int) := by omega
                      have htk : d5.held.take u = d5.held := List.take_of_length_le (by omega)
                      rw [htk]
                      have HUB := hd (HUY.out.trans HUU.out)
                      obtain ⟨fh, hfh⟩ : ∃ fh, (!(d5.held.any (conflB y))) = fh := ⟨_, rfl⟩
                      rw [hfh] at HND ⊢
                      clear hyb htk hfh HNC
                      have HNC := hd (fun (z : LkS) W => clash_any y z W)
                      unfold LkS.val at HNC
                      go_wp2_with fail
                      go_loopw [20, 24, 132] (fun s20 _ s132 wr => ∃ v : Nat, s132 = .int .i64 v ∧ v ≤ j ∧ s20 = .bool (fh && !((d5.waits.take v).any (conflB y))) ∧ Upd [] wu wr) (fun _ _ s132 _ => j - (intOf s132).toNat)
                      case atStart => exact ⟨0, rfl, by omega, by simp, Upd.refl _ _⟩
                      case round =>
                        clear hun hun' hu
                        obtain ⟨v, rfl, hv, rfl, hvp⟩ := hrel
                        rename World => wv
                        have HUV := hd hvp
                        have hyb := HYB.out.upd hvp (by simp)
                        have HYV := hd hyb
                        clear hvp
                        by_cases hvn : v < j
                        · have hvn' : (v : Int) < (j : Int) := by omega
                          have hvl : v < d5.waits.length := by omega
                          obtain ⟨g', e', hgl', c0, c1', c2', c3⟩ := lks_get HM11.out (HUB.out.trans HUV.out) v hvl
                          simp only [Option.some.injEq, Addr.mk.injEq, and_true] at e'
                          subst e'
                          have e40 := one_lk wv #[.int .i64 d5.waits[v].ses, .string (txt (textL d5.waits[v].path)), .bool d5.waits[v].excl, .int .u64 d5.waits[v].tok] 42
                          have HNZ := hd (HNC.out d5.waits[v])
                          have HTK := hd (show (d5.waits.take (v + 1)).any (conflB y) = ((d5.waits.take v).any (conflB y) || conflB y d5.waits[v]) by rw [List.take_succ_eq_append_getElem hvl, List.any_append]; simp)
                          have hwv : IntKind.i64.wrap ((v : Int) + 1) = (v : Int) + 1 := by have := HFE.out.1; rw [IntKind.wrap_i64]; omega
                          generalize d5.waits[v] = z at *
                          generalize (d5.waits.take v).any (conflB y) = fd at *
                          generalize conflB y z = cf at *
                          go_upto_region 40 with fail
                          obtain ⟨Wz, kz, hkz, hWz, huz, hbz⟩ := e40
                          rw [hWz, hkz]
                          have HUZ := hd (HUV.out.trans huz)
                          have hyc := (HYV.out.upd huz (by simp)).cell
                          have hyl := (HYV.out.upd huz (by simp)).lt
                          have hzc := hbz.cell
                          have hzl := hbz.lt
                          clear hkz hWz huz hbz hyb c0 c1' c2' c3
                          obtain ⟨fb, hfb⟩ : ∃ fb, (fh && !fd) = fb := ⟨_, rfl⟩
                          rw [hfb]
                          have HFB := hd (show ∀ c : Bool, (fh && !(fd || c)) = (fb && !c) from fun c => by rw [← hfb]; cases fh <;> cases fd <;> cases c <;> rfl)
                          clear hfb
                          rcases fb with _ | _
                          · go_wp2_with fail
                            go_roundw
                            case rel => exact ⟨v + 1, by go_num, by omega, by rw [HTK.out, HFB.out]; rfl, HUZ.out⟩
                            case measure => simp [intOf]; omega
                          · go_wp2_with fail
                            refine (HNZ.out Wz).mono ?_
                            rintro r wq ⟨rfl, huq⟩
                            have HUQ := hd (HUZ.out.trans huq)
                            clear huq hyc hyl hzc hzl
                            rcases cf with _ | _
                            · go_wp2_with fail
                              go_roundw
                              case rel => exact ⟨v + 1, by go_num, by omega, by rw [HTK.out, HFB.out]; rfl, HUQ.out⟩
                              case measure => simp [intOf]; omega
                            · go_wp2_with fail
                              go_roundw
                              case rel => exact ⟨v + 1, by go_num, by omega, by rw [HTK.out, HFB.out]; rfl, HUQ.out⟩
                              case measure => simp [intOf]; omega
                        · have hvn' : ¬ (v : Int) < (j : Int) := by omega
                          have hvj : v = j := by omega
                          subst hvj
                          have HUW := hd (HUB.out.trans HUV.out)
                          clear hyb hvn
                          obtain ⟨fb, hfb⟩ : ∃ fb, (fh && !((d5.waits.take v).any (conflB y))) = fb := ⟨_, rfl⟩
                          rw [hfb] at HND ⊢
                          clear hfb
                          by_cases hl : d5.last < 18446744073709551615
                          · have hfb := HND.out hl
                            subst hfb
                            go_wp2_with fail
                            go_roundw
                            case rel => exact ⟨v + 1, by go_num, by omega, HUW.out⟩
                            case measure => simp [intOf]; omega
                          · rcases fb with _ | _
                            · go_wp2_with fail
                              go_roundw
                              case rel => exact ⟨v + 1, by go_num, by omega, HUW.out⟩
                              case measure => simp [intOf]; omega
                            · go_wp2_with fail
                              go_roundw
                              case rel => exact ⟨v + 1, by go_num, by omega, HUW.out⟩
                              case measure => simp [intOf]; omega
                · have hjn' : ¬ (j : Int) < (d5.waits.length : Int) := by omega
                  have HUF := hd (HUE.out.trans HUJ.out)
                  have HL12 := hd (HL11.out.later HUJ.out)
                  clear HL11 HM11 HUJ hjn hj
                  go_wp2_with fail
                  go_loopw [26, 27, 28, 29, 30, 31, 32, 152] (fun _ _ _ _ _ _ _ s152 wr => ∃ j : Nat, s152 = .int .i64 j ∧ j ≤ d5.held.length ∧ Upd [] wj wr) (fun _ _ _ _ _ _ _ s152 _ => d5.held.length - (intOf s152).toNat)
                  case atStart => exact ⟨0, rfl, by omega, Upd.refl _ _⟩
                  case round =>
                    obtain ⟨j, rfl, hj, hu⟩ := hrel
                    rename World => wi
                    have HUJ := hd hu
                    clear hu
                    by_cases hjn : j < d5.held.length
                    · have hjn' : (j : Int) < (d5.held.length : Int) := by omega
                      obtain ⟨g, rfl, hgl, c0, c1', c2', c3⟩ := lks_get HL12.out HUJ.out j hjn
                      have e48 := one_lk wi #[.int .i64 d5.held[j].ses, .string (txt (textL d5.held[j].path)), .bool d5.held[j].excl, .int .u64 d5.held[j].tok] 42
                      have hwr : IntKind.i64.wrap ((j : Int) + 1) = (j : Int) + 1 := by have := HFE.out.1; rw [IntKind.wrap_i64]; omega
                      have HNC := hd (fun (z : LkS) W => clash_any d5.held[j] z W)
                      have HFQ := hd (fun W (hu : Upd [] W5 W) => HFW.out d5.held[j].ses d5.held[j].path W hu)
                      have HOR := hd (HMV.out.order d5.held[j] (List.getElem_mem hjn))
                      have HRG := hd (find_rng d ⟨d5.held[j].ses, d5.held[j].path, false, 0⟩)
                      obtain ⟨Y, hY⟩ : ∃ Y, findB d ⟨d5.held[j].ses, d5.held[j].path, false, 0⟩ = Y := ⟨_, rfl⟩
                      rw [hY] at HFQ HOR HRG
                      clear hY
                      obtain ⟨⟨ys, yp, yx, yt⟩, n⟩ := Y
                      unfold LkS.val at HFQ HNC
                      simp only at HFQ HOR HRG
                      generalize d5.held[j] = y at *
                      go_upto_region 48 with fail
                      obtain ⟨Wy, ky, hky, hWy, huy, hby⟩ := e48
                      rw [hWy, hky]
                      have HUY := hd (HUJ.out.trans huy)
                      have HBY := hd hby
                      have hyc := hby.cell
                      have hyl := hby.lt
                      clear hky hWy huy hby c0 c1' c2' c3
                      go_wp2_with fail
                      refine (HFQ.out Wy (HUF.out.trans HUY.out)).mono ?_
                      rintro r wz ⟨rfl, huz⟩
                      have HUZ := hd (HUY.out.trans huz)
                      have HYZ := hd (HBY.out.upd huz (by simp))
                      have e49 := one_lk wz #[.int .i64 ys, .string (txt (textL yp)), .bool yx, .int .u64 yt] 42
                      clear huz hyc hyl
                      go_upto_region 49 with fail
                      obtain ⟨Wv, kv, hkv, hWv, huv, hbv⟩ := e49
                      rw [hWv, hkv]
                      have HUV := hd (HUZ.out.trans huv)
                      have HYV := hd (HYZ.out.upd huv (by simp))
                      clear hkv hWv huv hbv
                      by_cases hn0 : n = 0
                      · subst hn0
                        go_wp2_with fail
                        go_roundw
                        case rel => exact ⟨j + 1, by go_num, by omega, HUV.out⟩
                        case measure => simp [intOf]; omega
                      · have hn1 : (n == 0) = false := by simpa using hn0
                        have HO2 := hd (HOR.out hn0)
                        have hn64 : IntKind.i64.wrap (n - 1) = n - 1 := by have := HRG.out; have := HFE.out.2; rw [IntKind.wrap_i64]; omega
                        clear hn0 HOR
                        go_wp2_with fail
                        refine (HWW.out Wv (HUF.out.trans HUV.out)).mono ?_
                        rintro r w50 ⟨vs, rfl, hu50, ho50⟩
                        have HU50 := hd (HUV.out.trans hu50)
                        have HM50 := hd (row_lks ho50)
                        have HY50 := hd (HYV.out.upd hu50 (by simp))
                        obtain ⟨b50, m50, rfl, -⟩ := own_open ho50
                        clear hu50 ho50
                        go_wp2_with fail
                        go_loopw [29, 30, 31, 32, 170] (fun _ _ _ _ s170 wr => ∃ u : Nat, s170 = .int .i64 u ∧ u ≤ d.waits.length ∧ Upd [] w50 wr) (fun _ _ _ _ s170 _ => d.waits.length - (intOf s170).toNat)
                        case atStart => exact ⟨0, rfl, by omega, Upd.refl _ _⟩
                        case round =>
                          obtain ⟨u, rfl, hu, hup⟩ := hrel
                          rename World => wu
                          have HUU := hd hup
                          have HYB := hd (HY50.out.upd hup (by simp))
                          clear hup
                          by_cases hun : u < d.waits.length
                          · have hun' : (u : Int) < (d.waits.length : Int) := by omega
                            obtain ⟨g', rfl, hgl', c0, c1', c2', c3⟩ := lks_get HM50.out HUU.out u hun
                            have e53 := one_lk wu #[.int .i64 d.waits[u].ses, .string (txt (textL d.waits[u].path)), .bool d.waits[u].excl, .int .u64 d.waits[u].tok] 42
                            have hwu : IntKind.i64.wrap ((u : Int) + 1) = (u : Int) + 1 := by have := HFE.out.2; rw [IntKind.wrap_i64]; omega
                            have HNZ := hd (HNC.out d.waits[u])
                            have HFZ := hd (fun W (hu : Upd [] W5 W) => HFI.out d.waits[u].ses d.waits[u].path W hu)
                            have HOZ := hd (HO2.out u hun)
                            obtain ⟨Z, hZ⟩ : ∃ Z, findB d5 ⟨d.waits[u].ses, d.waits[u].path, false, 0⟩ = Z := ⟨_, rfl⟩
                            rw [hZ] at HFZ HOZ
                            clear hZ
                            obtain ⟨⟨zs, zp, zx, zt⟩, sn⟩ := Z
                            unfold LkS.val at HFZ
                            simp only at HFZ HOZ
                            generalize d.waits[u] = z at *
                            generalize conflB y z = cf at *
                            go_upto_region 53 with fail
                            obtain ⟨Wz, kz, hkz, hWz, huz, hbz⟩ := e53
                            rw [hWz, hkz]
                            have HUZ2 := hd (HUU.out.trans huz)
                            have HYC := hd (HYB.out.upd huz (by simp))
                            have HBZ := hd hbz
                            have hzc := hbz.cell
                            have hzl := hbz.lt
                            clear hkz hWz huz hbz c0 c1' c2' c3
                            go_wp2_with fail
                            refine (HFZ.out Wz (HUF.out.trans (HU50.out.trans HUZ2.out))).mono ?_
                            rintro r w54 ⟨rfl, hu54⟩
                            have HU54 := hd (HUZ2.out.trans hu54)
                            have HY54 := hd (HYC.out.upd hu54 (by simp))
                            have HZ54 := hd (HBZ.out.upd hu54 (by simp))
                            have e54 := one_lk w54 #[.int .i64 zs, .string (txt (textL zp)), .bool zx, .int .u64 zt] 42
                            clear hu54 hzc hzl
                            go_upto_region 54 with fail
                            obtain ⟨Wq, kq, hkq, hWq, huq, hbq⟩ := e54
                            rw [hWq, hkq]
                            have HUQ := hd (HU54.out.trans huq)
                            have hyc := (HY54.out.upd huq (by simp)).cell
                            have hyl := (HY54.out.upd huq (by simp)).lt
                            have hzc := (HZ54.out.upd huq (by simp)).cell
                            have hzl := (HZ54.out.upd huq (by simp)).lt
                            clear hkq hWq huq hbq
                            go_cut [200] (fun s200 wx => s200 = .bool false ∧ Upd [] w50 wx)
                            case first =>
                              by_cases hn2 : n < 0
                              · by_cases hs2 : 0 < sn
                                · have hcf := HOZ.out (.inl hn2) hs2
                                  subst hcf
                                  go_wp2_with fail
                                  refine (HNZ.out Wq).mono ?_
                                  rintro r wp ⟨rfl, hup⟩
                                  go_wp2_with fail
                                  go_meet
                                  case rel => exact ⟨rfl, HUQ.out.trans hup⟩
                                · go_wp2_with fail
                                  go_meet
                                  case rel => exact ⟨rfl, HUQ.out⟩
                              · by_cases hk2 : (u : Int) < n - 1
                                · by_cases hs2 : 0 < sn
                                  · have hcf := HOZ.out (.inr hk2) hs2
                                    subst hcf
                                    go_wp2_with fail
                                    refine (HNZ.out Wq).mono ?_
                                    rintro r wp ⟨rfl, hup⟩
                                    go_wp2_with fail
                                    go_meet
                                    case rel => exact ⟨rfl, HUQ.out.trans hup⟩
                                  · go_wp2_with fail
                                    go_meet
                                    case rel => exact ⟨rfl, HUQ.out⟩
                                · go_wp2_with fail
                                  go_meet
                                  case rel => exact ⟨rfl, HUQ.out⟩
                            case rest =>
                              obtain ⟨rfl, hux⟩ := hcut
                              have HUX := hd hux
                              clear hyc hyl hzc hzl hux
                              go_wp2_with fail
                              go_roundw
                              case rel => exact ⟨u + 1, by go_num, by omega, HUX.out⟩
                              case measure => simp [intOf]; omega
                          · have hun' : ¬ (u : Int) < (d.waits.length : Int) := by omega
                            go_wp2_with fail
                            go_roundw
                            case rel => exact ⟨j + 1, by go_num, by omega, HU50.out.trans HUU.out⟩
                            case measure => simp [intOf]; omega
                    · have hjn' : ¬ (j : Int) < (d5.held.length : Int) := by omega
                      have HUG := hd (HUF.out.trans HUJ.out)
                      clear hjn
                      go_wp2_with fail
                      go_roundw
                      case rel => exact ⟨t + 1, by go_num, by omega, by omega, _, _, _, _, _, _, _, _, HP5.out.later HUG.out, HMV.out.fair, rfl⟩
                      case measure => simp [intOf]; omega
      · have htn' : (t : Int) < (acts.length : Int) := by omega
        have ht4' : ¬ (t : Int) < 60 := by omega
        have HE := hd HP.out.upd
        go_wp2_with fail
        go_ret
        exact ⟨rfl, HE.out⟩
    · have htn' : ¬ (t : Int) < (acts.length : Int) := by omega
      have HE := hd HP.out.upd
      go_wp2_with fail
      go_ret
      exact ⟨rfl, HE.out⟩
end Go.Proofs.YtpniggmdokkkcaaGreatDoor
