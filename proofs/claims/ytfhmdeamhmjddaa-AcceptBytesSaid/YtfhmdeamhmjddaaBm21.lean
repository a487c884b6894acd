/-
  AcceptBytes (layer 16): for every list of calls and any bytes, the law answers true: what is put is got back, and any bytes are a state or an error. No condition.
-/
import Derived.Test.YtfhmdeamhmjddaaBm16
import Derived.Test.YtfhmdeamhmjddaaBm20
import Derived.OpenShut
import Derived.ShutString
import Derived.ChangeOld
import Derived.ProofKit
import Derived.Deep.Slices
import Derived.Deep.Fields
import Derived.ChangeSame
/-
  AcceptBytes of layer 16, walked: it answers true. Condition: the list of calls reads as one.
-/
set_option linter.unusedVariables false
set_option linter.unusedSimpArgs false
set_option maxRecDepth 100000
namespace Go.Proofs.Ytfhmdeamhmjddaa
open Go.RowKit

theorem cutL_any (s : List UInt8) (most : Nat) (w : World) (hs : s.length ≤ 9223372036854775807) (hm : most ≤ 1000000) :
    Calls Try.prog 9 #[.string (txt s), .int .i64 most] w fun x w' => x = .returned (.string (txt (s.take most))) ∧ w = w' := by
  have hx : most ≤ s.length → (txt s).extract 0 most = txt (s.take most) := fun h => by
    apply ByteArray.ext
    simp [txt, ByteArray.data_extract]
  by_cases h : most < s.length
  · have h' : (most : Int) < (s.length : Int) := by omega
    have hx := hx (by omega)
    go_enter Try.func9, Try.ntmps9
    go_wp2_with fail
    go_ret
    exact ⟨rfl, rfl⟩
  · have h' : ¬ (most : Int) < (s.length : Int) := by omega
    rw [List.take_of_length_le (by omega)]
    clear hx
    go_enter Try.func9, Try.ntmps9
    go_wp2_with fail
    go_ret
    exact ⟨rfl, rfl⟩
theorem run_wit (x : ActS) (d : AccS) : (x.run d).wit = d.wit := by
  unfold ActS.run
  split
  · exact (prepare_wit d _ _).symm
  · split
    · exact (accept_wit d _).symm
    · split
      · exact (ask_wit d _ _ _).symm
      · split
        · exact (trim_wit d _).symm
        · rfl
theorem acc_none (r : RdS) (wit : Bool) (h : (accOf r wit).1 = none) : (accOf r wit).2.err ≠ 0 := by
  intro he
  unfold accOf at h he
  simp only at h he
  rw [if_pos he] at h
  cases h

theorem rd_drew {w : World} {k : Nat} {r : RdS} (h : RdAt w k r) : RdAt w.drew k r := Blk.drew h

/-- The state of the loop of calls. -/
def CallsAt (B : Nat) (w0 w : World) (b k6 : Nat) (wit : Bool) (d : AccS) : Prop :=
  ∃ (l : Value) (a2 : Option Addr) (c2 : Nat), d.small ∧ d.legal ∧ d.wit = wit ∧ Upd [] w0 w ∧ AccAt B w b l d ∧ RefRow B w (.slice a2 d.list.length c2) d.list ∧ Blk w k6 #[.bool d.wit, .int .u64 d.bal.c, .int .i64 d.bal.n, .int .i64 d.base, .slice a2 d.list.length c2, .int .i64 d.node, .int .i64 d.til] 54

set_option maxHeartbeats 16000000 in
theorem bytes16_law (wit : Bool) (v : Value) (n : Nat) (s : List UInt8) (w : World) (hv : Acts16C w v n) (hs : s.length ≤ 9223372036854775807) :
    Calls Try.prog 7 #[.bool wit, v, .string (txt s)] w fun e w' => e = .returned (.bool true) ∧ Upd [] w w' := by
  obtain ⟨a, cap, rfl, hnc, hc, hel⟩ := hv
  have HE := hd hel
  clear hel
  go_enter Try.func7, Try.ntmps7
  go_wp2_with fail
  refine (awake_any w).mono ?_
  rintro e w1 ⟨rfl, hu1⟩
  have HU1 := hd hu1
  clear hu1
  go_wp2_with fail
  refine (anew_any wit w1).mono ?_
  rintro e w2 ⟨rfl, hu2, hd2, hlt2⟩
  obtain ⟨b, hb⟩ : ∃ b, b = w1.heap.size := ⟨_, rfl⟩
  rw [← hb] at hd2 hlt2 ⊢
  have hwb : w.heap.size ≤ b := by have := HU1.out.size; omega
  have HU2 := hd ((HU1.out.trans hu2).alloc (.cells #[.bool wit, .int .u64 0, .int .i64 0, .int .i64 0, .slice none 0 0, .int .i64 0, .int .i64 0] 54))
  have HD2 := hd ((show AccAt w.heap.size w2 b (.slice none 0 0) (acc0 wit) from ⟨hd2.blk, own_mono hd2.own (by omega)⟩).alloc (.cells #[.bool wit, .int .u64 0, .int .i64 0, .int .i64 0, .slice none 0 0, .int .i64 0, .int .i64 0] 54))
  have HK2 := hd (Blk.new w2 #[.bool wit, .int .u64 0, .int .i64 0, .int .i64 0, .slice none 0 0, .int .i64 0, .int .i64 0] 54)
  clear hb
  go_upto_region 4 with fail
  obtain ⟨k6, hk6⟩ : ∃ k6, k6 = w2.heap.size := ⟨_, rfl⟩
  have hbk : b < k6 := by omega
  generalize w2.alloc (.cells #[.bool wit, .int .u64 0, .int .i64 0, .int .i64 0, .slice none 0 0, .int .i64 0, .int .i64 0] 54) = W3 at *
  rw [← hk6] at HK2 ⊢
  have hwk : w.heap.size ≤ k6 := by omega
  clear hu2 hd2 HU1 hlt2 hk6
  have HB0 := hd (show CallsAt w.heap.size w W3 b k6 wit (acc0 wit) from ⟨_, none, 0, small_acc0 wit, acc0_legal wit, rfl, HU2.out, HD2.out, nil_row _ _ _, HK2.out⟩)
  clear HU2 HD2 HK2
  go_upto_block 0 with fail
  go_cut [] (fun wx => ∃ d, CallsAt w.heap.size w wx b k6 wit d)
  case first =>
    go_wp2_with fail
    go_loopw [9] (fun c wr => ∃ (t : Nat) (d : AccS), c = .int .i64 t ∧ t ≤ 40 ∧ CallsAt w.heap.size w wr b k6 wit d) (fun c _ => 40 - (intOf c).toNat)
    case atStart => exact ⟨0, acc0 wit, rfl, by omega, HB0.out⟩
    case round =>

      obtain ⟨t, d, rfl, ht, l, a2, c2, hds, hdl, hdw, hu, h, hr, hk⟩ := hrel
      have HDS := hd hds
      have HDL := hd hdl
      have HDW := hd hdw
      have HU := hd hu
      have H := hd h
      have HR := hd hr
      have HK := hd hk
      have HBY := hd (show CallsAt w.heap.size w wr b k6 wit d from ⟨l, a2, c2, hds, hdl, hdw, hu, h, hr, hk⟩)
      have hlen := hds.above.few
      clear hds hdl hdw hu h hr hk
      by_cases htn : t < n
      · by_cases ht40 : t < 40
        · obtain ⟨k, o, rfl, hk, hx⟩ := HE.out (by omega)
          obtain ⟨x, hxc, hxs, hx0, hx1⟩ := hx t htn
          have HY := hd (few_small x hx0 hx1)
          have HYN := hd (few_nil0 x)
          have hcc : ∀ j, j < 9 → wr.cell? ⟨k, o + (t * 9 + j), none⟩ = x.cells[j]? := fun j hj => by rw [← hxc j hj]; exact World.cell?_of_block (HU.out.block k hk (by simp))
          have hfew := few_any x
          have HFW := hd (fun w => hfew w hxs)
          unfold ActS.cells at HFW
          simp only [ActS.cells] at hcc
          have hc0 := hcc 0 (by omega)
          have hc1 := hcc 1 (by omega)
          have hc2 := hcc 2 (by omega)
          have hc3 := hcc 3 (by omega)
          have hc4 := hcc 4 (by omega)
          have hc5 := hcc 5 (by omega)
          have hc6 := hcc 6 (by omega)
          have hc7 := hcc 7 (by omega)
          have hc8 := hcc 8 (by omega)
          simp at hc0 hc1 hc2 hc3 hc4 hc5 hc6 hc7 hc8
          simp only [← Nat.add_assoc] at hc0 hc1 hc2 hc3 hc4 hc5 hc6 hc7 hc8
          have hkw : k < wr.heap.size := by have := HU.out.size; omega
          have hkc := HK.out.cell
          have hkl := HK.out.lt
          have HDO := hd (fun W (hu : Upd [] wr W) => do_any w.heap.size b l d (.slice a2 d.list.length c2) x.few W (H.out.later hu) (own_upd HR.out hu (by simp)) HDS.out HY.out (by have := HU.out.size; have := hu.size; omega))
          clear hfew hx hxc hxs hx0 hx1 HE hcc
          generalize x.few = y at *
          have HSR := hd (run_small y d HY.out HDS.out)
          have HSL := hd (run_legal y d HY.out HYN.out.1 HYN.out.2 HDL.out)
          have HSW := hd (show (y.run d).wit = wit by rw [run_wit, HDW.out])
          simp only [AccS.cells, ActS.cells] at HDO HFW
          go_upto_region 9 with fail
          go_region_with (first
            | ((with_reducible refine (HFW.out _).mono ?_); rintro e w2 ⟨rfl, hu2⟩; have hud : Upd [] wr w2 := Upd.trans (by repeat (first | with_reducible exact Upd.refl _ _ | with_reducible refine Upd.drew ?_ | with_reducible refine Upd.alloc ?_ _)) hu2; have hkk := HK.out.upd hud (by simp); have hkkc := hkk.cell)
            | ((with_reducible refine (HDO.out w2 hud).mono ?_); rintro e w3 ⟨l3, l4, rfl, ha3, hr3, hup3⟩; obtain ⟨a4, c4, rfl, -⟩ := own_open hr3; have hzc := blk_up hkk (H.out.later hud) (by decide) (by decide) hup3; have hzcc := hzc.cell; have hzcz := hzc.frozen)
            | ((with_reducible refine (HDO.out (w2.drew) (hud.drew)).mono ?_); rintro e w3 ⟨l3, l4, rfl, ha3, hr3, hup3⟩; obtain ⟨a4, c4, rfl, -⟩ := own_open hr3; have hzc := blk_up hkk.drew (H.out.later hud.drew) (by decide) (by decide) hup3; have hzcc := hzc.cell; have hzcz := hzc.frozen))
          all_goals
            obtain ⟨W8, e8, u8, b8⟩ := set7 hzc (.bool (y.run d).wit) (.int .u64 (y.run d).bal.c) (.int .i64 (y.run d).bal.n) (.int .i64 (y.run d).base) (.slice a4 (y.run d).list.length c4) (.int .i64 (y.run d).node) (.int .i64 (y.run d).til)
            have HE8 := hd e8
            have hown : ∀ i ∈ b :: l.ownBlock.toList, i ∈ ([] : List Nat) ∨ w.heap.size ≤ i := fun i hi => by
              rcases List.mem_cons.1 hi with e | e
              · exact .inr (by omega)
              · exact .inr (own_ge H.out.own i (by simpa using e)).1
            have HUF := hd (show Upd [] w W8 from by
              first
              | exact ((HU.out.trans hud).trans' hup3.upd hown).trans' u8 (by intro i hi; simp at hi; omega)
              | exact ((HU.out.trans hud).drew.trans' hup3.upd hown).trans' u8 (by intro i hi; simp at hi; omega))
            have HA8 := hd (ha3.keep hzc (by decide) (by decide) u8)
            have HR8 := hd (own_keep hr3 hzc (by decide) u8)
            have HB8 := hd b8
            clear e8 u8 b8 hzcc hzcz hzc hkkc hkk hup3 ha3 hr3 hud hu2
            rw [HE8.out]
            go_wp2_with fail
            go_roundw
            case rel => exact ⟨t + 1, y.run d, by go_num, by omega, l3, a4, c4, HSR.out, HSL.out, HSW.out, HUF.out, HA8.out, HR8.out, HB8.out⟩
            case measure => simp [intOf]; omega
        · obtain rfl : t = 40 := by omega
          go_wp2_with fail
          go_meet
          case rel => exact ⟨d, HBY.out⟩
      · go_wp2_with fail
        go_meet
        case rel => exact ⟨d, HBY.out⟩
  case rest =>
    obtain ⟨d, l, a2, c2, hds, hdl, hdw, hu, h, hr, hk⟩ := hcut
    have HDS := hd hds
    have HU := hd hu
    have H := hd h
    have HR := hd hr
    have HK := hd hk
    have HBK := hd (show ∀ r, accOf ⟨d.bytes ++ r, 0⟩ wit = (some d, ⟨r, 0⟩) from fun r => by rw [← hdw]; exact acc_back d hds hdl (rising_small d hds) r)
    have hbl : d.bytes.length ≤ 1000000 := by
      have h1 := balBytes_le d.bal
      have h2 := nBytes_le d.base
      have h3 := nBytes_le (d.list.length : Int)
      have h4 := nBytes_le d.node
      have h5 := nBytes_le d.til
      have h6 := entsBytes_le d.list hds.ents
      have h7 := hds.above.few
      unfold balBytes at h1
      unfold AccS.bytes
      simp only [List.length_append] at *
      omega
    have hkl := hk.lt
    clear hds hdl hu h hr hk HB0 HE
    -- what the program writes
    have e5 : ∃ W5 kw, wc.heap.size = kw ∧ wc.alloc (.cells #[.slice none 0 0] 61) = W5 ∧ Upd [] wc W5 ∧ Blk W5 kw #[.slice none 0 0] 61 := ⟨_, _, rfl, rfl, (Upd.refl _ _).alloc _, Blk.new _ _ _⟩
    go_upto_region 11 with fail
    obtain ⟨W5, kw, hkw, hW5, hu5, hb5⟩ := e5
    rw [hW5, hkw]
    have hk6w : k6 < kw := by omega
    have hwkw : w.heap.size ≤ kw := by omega
    clear hW5 hkw
    have HU5 := hd (HU.out.trans hu5)
    have H5 := hd (H.out.later hu5)
    have HR5 := hd (own_upd HR.out hu5 (by simp))
    have HK5 := hd (HK.out.upd hu5 (by simp))
    have HW5 := hd (show WrAt W5.heap.size W5 kw (.slice none 0 0) [] from ⟨hb5, World.ownsRow_nil _ _ _ _⟩)
    clear hu5 hb5 HU H HR HK
    go_wp2_with fail
    refine (aput_any w.heap.size W5.heap.size b kw l d (.slice none 0 0) [] W5 H5.out HDS.out HW5.out (by simp) (Nat.le_refl _)).mono ?_
    rintro e w6 ⟨rfl, v6, hw6, hup6⟩
    rw [List.nil_append] at hw6
    have hu6 : Upd [kw] W5 w6 := hup6.upd.mono (by simp [Value.ownBlock])
    have HU6 := hd (HU5.out.trans' hu6 (by intro i hi; simp at hi; omega))
    have HA6 := hd (H5.out.wr HW5.out hup6)
    have HR6 := hd (own_upd HR5.out hu6 (fun g hg hm => own_ne_any HR5.out HW5.out.blk (by decide) g hg (by simpa using hm)))
    have HK6 := hd (HK5.out.upd hu6 (by simp; omega))
    have HW6 := hd hw6
    clear hu6 hw6 hup6 HU5 H5 HR5 HK5 HW5
    go_wp2_with fail
    refine (Text_any W5.heap.size kw v6 d.bytes w6 HW6.out).mono ?_
    rintro e w7 ⟨rfl, rfl⟩
    have HRN := hd (read_new d.bytes w7)
    rw [show txt d.bytes = ⟨d.bytes.toArray⟩ from rfl] at HRN
    go_wp2_with fail
    refine HRN.out.mono ?_
    rintro e w8 ⟨rfl, hu8, hr8, hlt8⟩
    obtain ⟨kr, hkr⟩ : ∃ kr, kr = w7.heap.size := ⟨_, rfl⟩
    rw [← hkr] at hr8 hlt8 ⊢
    have hwkr : w.heap.size ≤ kr := by have := HU6.out.size; omega
    have hk6r : k6 < kr := by have := HK6.out.lt; omega
    have HU8 := hd (HU6.out.trans hu8)
    have HA8 := hd (HA6.out.later hu8)
    have HR8 := hd (own_upd HR6.out hu8 (by simp))
    have HK8 := hd (HK6.out.upd hu8 (by simp))
    have HW8 := hd (HW6.out.later hu8)
    have HD8 := hd hr8
    clear hkr hu8 hr8 HU6 HA6 HR6 HK6 HW6 HRN
    have hacc : accOf ⟨d.bytes, 0⟩ wit = (some d, ⟨[], 0⟩) := by
      have := HBK.out []
      rwa [List.append_nil] at this
    have HTX := hd (show ∀ W, Upd [kr] w8 W → Calls Try.prog 28 #[.pointer (some ⟨kw, 0, none⟩)] W fun e w' => e = .returned (.string (txt d.bytes)) ∧ W = w' from fun W hu =>
      (Text_any W5.heap.size kw v6 d.bytes W ⟨HW8.out.blk.upd hu (by simpa using blk_ne HW8.out.blk HD8.out (by decide)), own_upd HW8.out.own hu (fun g hg hm => own_ne_any HW8.out.own HD8.out (by decide) g hg (by simpa using hm))⟩).mono (by rintro e w' ⟨rfl, rfl⟩; exact ⟨rfl, rfl⟩))
    have HRR := hd (show ∀ W, Upd [kr] w8 W → RefRow w.heap.size W (.slice a2 d.list.length c2) d.list from fun W hu => own_upd HR8.out hu (fun g hg hm => own_ne_any HR8.out HD8.out (by decide) g hg (by simpa using hm)))
    have HRP := hd (show ∀ W, Upd [kr] w8 W → Calls Try.prog 29 #[.agg (d.cells (.slice a2 d.list.length c2))] W fun e w' => e = .returned (.string (txt d.bytes)) ∧ Upd [kr] w8 w' ∧ (∀ r, RdAt W kr r → RdAt w' kr r) from fun W hu =>
      (refPut_any w.heap.size d (.slice a2 d.list.length c2) W (HRR.out W hu) HDS.out).mono (by rintro e w' ⟨rfl, hu'⟩; exact ⟨rfl, hu.trans (hu'.mono (by simp)), fun r hr => hr.upd hu' (by simp)⟩))
    have HRD := hd (show ∀ W, Upd [kr] w8 W → RdAt W kr ⟨d.bytes, 0⟩ → Calls Try.prog 30 #[.pointer (some ⟨kr, 0, none⟩), .bool wit] W fun e w' => ∃ b2 l2, e = .returned (.pointer (some ⟨b2, 0, none⟩)) ∧ Upd [kr] w8 w' ∧ RdAt w' kr ⟨[], 0⟩ ∧ AccAt w.heap.size w' b2 l2 d from fun W hu hr =>
      (aget_any ⟨d.bytes, 0⟩ wit kr W hr (by simp only; omega)).mono (by
        rintro e w' ⟨ho, hu', hr'⟩
        rw [hacc] at ho hr'
        obtain ⟨b2, l2, rfl, hb2, ha2⟩ := ho
        exact ⟨b2, l2, rfl, hu.trans hu', hr', ⟨ha2.blk, own_mono ha2.own (by have := HU8.out.size; have := hu.size; omega)⟩⟩))
    have HIS := hd (show ∀ W b2 l2, Upd [kr] w8 W → AccAt w.heap.size W b2 l2 d → Calls Try.prog 25 #[.pointer (some ⟨b2, 0, none⟩), .agg (d.cells (.slice a2 d.list.length c2))] W fun e w' => e = .returned (.bool true) ∧ Upd [] W w' from fun W b2 l2 hu ha =>
      is_any w.heap.size b2 l2 d (.slice a2 d.list.length c2) W ha (HRR.out W hu) HDS.out)
    have HDN := hd (show ∀ W, RdAt W kr ⟨[], 0⟩ → Calls Try.prog 31 #[.pointer (some ⟨kr, 0, none⟩)] W fun e w' => e = .returned (.int .i64 0) ∧ Upd [kr] W w' from fun W hr =>
      (done_rd ⟨[], 0⟩ kr W hr).mono (by rintro e w' ⟨rfl, hu', _⟩; exact ⟨rfl, hu'⟩))
    have HKS := hd (show ∀ W, Upd [kr] w8 W → ∀ o, W.cell? ⟨k6, o, none⟩ = #[.bool d.wit, .int .u64 d.bal.c, .int .i64 d.bal.n, .int .i64 d.base, .slice a2 d.list.length c2, .int .i64 d.node, .int .i64 d.til][o]? from fun W hu => (HK8.out.upd hu (by simp; omega)).cell)
    simp only [AccS.cells, hdw] at HRP HIS HKS
    clear hdw
    generalize d.bytes = BYT at *
    have hcb : ((txt BYT).toList == (txt BYT).toList) = true := by simp
    clear HRR HK8 HR8 HA8 HW8 HBK hacc
    go_upto_region 13 with fail
    go_cut [64] (fun s64 wx => s64 = .bool false ∧ Upd [] w wx)
    case first =>
      go_region_held3 (fun W => ∀ o, W.cell? ⟨k6, o, none⟩ = #[.bool wit, .int .u64 d.bal.c, .int .i64 d.bal.n, .int .i64 d.base, .slice a2 d.list.length c2, .int .i64 d.node, .int .i64 d.til][o]?)
        ((refine HKS.out _ (by repeat (first | with_reducible exact Upd.refl _ _ | with_reducible exact HU12.out | with_reducible exact HU11.out | with_reducible exact HU10.out | with_reducible exact HU9.out | with_reducible refine Upd.drew ?_ | with_reducible refine Upd.alloc ?_ _))))
        (first
        | ((with_reducible refine (HTX.out _ (by repeat (first | with_reducible exact Upd.refl _ _ | with_reducible exact HU12.out | with_reducible exact HU11.out | with_reducible exact HU10.out | with_reducible exact HU9.out | with_reducible refine Upd.drew ?_ | with_reducible refine Upd.alloc ?_ _))).mono ?_); rintro e w9 ⟨rfl, rfl⟩)
        | ((with_reducible refine (HRP.out _ (by repeat (first | with_reducible exact Upd.refl _ _ | with_reducible exact HU12.out | with_reducible exact HU11.out | with_reducible exact HU10.out | with_reducible exact HU9.out | with_reducible refine Upd.drew ?_ | with_reducible refine Upd.alloc ?_ _))).mono ?_); rintro e w9 ⟨rfl, hu9, hrd9⟩; have HU9 := hd hu9; have HD9 := hd (hrd9 ⟨BYT, 0⟩ (by repeat (first | with_reducible exact HD8.out | with_reducible exact rd_drew HD8.out))); clear hu9 hrd9)
        | ((with_reducible refine (HRD.out _ (by repeat (first | with_reducible exact Upd.refl _ _ | with_reducible exact HU12.out | with_reducible exact HU11.out | with_reducible exact HU10.out | with_reducible exact HU9.out | with_reducible refine Upd.drew ?_ | with_reducible refine Upd.alloc ?_ _)) (by repeat (first | with_reducible exact HD9.out | with_reducible exact rd_drew HD9.out))).mono ?_); rintro e w10 ⟨b2, l2, rfl, hu10, hd10, ha10⟩; have HU10 := hd hu10; have HD10 := hd hd10; have HA10 := hd ha10; clear hu10 hd10 ha10)
        | ((with_reducible refine (HIS.out _ b2 l2 (by repeat (first | with_reducible exact Upd.refl _ _ | with_reducible exact HU12.out | with_reducible exact HU11.out | with_reducible exact HU10.out | with_reducible exact HU9.out | with_reducible refine Upd.drew ?_ | with_reducible refine Upd.alloc ?_ _)) (by first | with_reducible exact HA10.out | with_reducible exact HA10.out.later (Upd.refl _ _).drew)).mono ?_); rintro e w11 ⟨rfl, hu11⟩; have HD11 := hd (HD10.out.upd hu11 (by simp)); have HU11 := hd (HU10.out.trans (hu11.mono (by simp))); clear hu11)
        | ((with_reducible refine (HDN.out _ (by first | with_reducible exact HD11.out | with_reducible exact rd_drew HD11.out)).mono ?_); rintro e w12 ⟨rfl, hu12⟩; have HU12 := hd (HU11.out.trans hu12); clear hu12)
        | fail "no arm")
      all_goals
        go_wp2_with fail
        go_meet
        case rel =>
          first
          | exact ⟨rfl, HU8.out.trans' HU12.out (by intro i hi; simp at hi; omega)⟩
          | exact ⟨rfl, HU8.out.trans' HU12.out.drew (by intro i hi; simp at hi; omega)⟩
    case rest =>
      obtain ⟨rfl, hu⟩ := hcut
      have HU := hd hu
      clear hu HTX HRP HRD HIS HDN HKS HU8 HD8
      have htl : (s.take 300).length ≤ 300 := by rw [List.length_take]; omega
      have HCT := hd (fun W => cutL_any s 300 W hs (by decide))
      generalize s.take 300 = T at *
      go_wp2_with fail
      refine (HCT.out _).mono ?_
      rintro e w9 ⟨rfl, rfl⟩
      have HSZ := hd HU.out.size
      have HRN := hd (fun W => read_new T W)
      go_wp2_with fail
      refine (HRN.out _).mono ?_
      rintro e w10 ⟨rfl, hu10, hr10, hlt10⟩
      obtain ⟨kq, hkq, hwq⟩ : ∃ kq, kq = _ ∧ w.heap.size ≤ kq := ⟨_, rfl, HSZ.out⟩
      rw [← hkq] at hr10 hlt10 ⊢
      have HU10 := hd (HU.out.trans hu10)
      have HR10 := hd hr10
      clear hkq hu10 hr10 HRN HCT
      have hforth := acc_forth ⟨T, 0⟩ wit
      have hnone := acc_none ⟨T, 0⟩ wit
      have HGT := hd (fun W (hr : RdAt W kq ⟨T, 0⟩) => aget_any ⟨T, 0⟩ wit kq W hr (by simp only; omega))
      generalize accOf ⟨T, 0⟩ wit = O at *
      obtain ⟨o, q⟩ := O
      simp only at HGT hnone
      go_wp2_with fail
      refine (HGT.out _ HR10.out).mono ?_
      rintro e w11 ⟨ho, hu11, hr11⟩
      have HU11 := hd (HU10.out.trans' hu11 (by intro i hi; simp at hi; omega))
      have HR11 := hd hr11
      have hs10 := HU10.out.size
      clear hu11 hr11
      rcases o with _ | d2
      · obtain rfl := ho
        have hne := hnone rfl
        have hne' : (q.err != 0) = true := by simpa using hne
        clear hnone hne hforth
        go_wp2_with fail
        refine (err_rd q kq w11 HR11.out).mono ?_
        rintro e w12 ⟨rfl, rfl⟩
        go_wp2_with fail
        go_ret
        exact ⟨rfl, HU11.out⟩
      · obtain ⟨b2, l2, rfl, hb2, ha2⟩ := ho
        obtain ⟨hq0, hq1, hq2, hq3⟩ := hforth d2 q rfl
        have hq0' : (q.err != 0) = false := by simp [hq0]
        have HA2 := hd ha2
        have HD2 := hd hq2
        have HQ1 := hd hq1
        have hq4 : T = d2.bytes ++ q.left := hq3
        clear hq3
        have hln : T.length = d2.bytes.length + q.left.length := by rw [hq4, List.length_append]
        have HTK := hd (show T.take d2.bytes.length = d2.bytes by rw [hq4]; exact List.take_left)
        have hxt : (txt T).extract 0 d2.bytes.length = txt (T.take d2.bytes.length) := by
          apply ByteArray.ext
          simp [txt, ByteArray.data_extract]
        rw [HTK.out] at hxt
        clear hnone hforth hq0 hq2 hq4 ha2
        go_wp2_with fail
        refine (err_rd q kq w11 HR11.out).mono ?_
        rintro e w12 ⟨rfl, rfl⟩
        have e5 : ∃ W5 kw, w11.heap.size = kw ∧ w11.alloc (.cells #[.slice none 0 0] 61) = W5 ∧ Upd [] w11 W5 ∧ Blk W5 kw #[.slice none 0 0] 61 := ⟨_, _, rfl, rfl, (Upd.refl _ _).alloc _, Blk.new _ _ _⟩
        go_upto_region 21 with fail
        obtain ⟨W5, kv, hkv, hW5, hu5, hb5⟩ := e5
        rw [hW5, hkv]
        have hs11 := HU11.out.size
        have hwkv : w.heap.size ≤ kv := by omega
        clear hW5 hkv
        have HU5 := hd (HU11.out.trans hu5)
        have HA5 := hd (HA2.out.later hu5)
        have HR5 := hd (HR11.out.upd hu5 (by simp))
        have HW5 := hd (show WrAt W5.heap.size W5 kv (.slice none 0 0) [] from ⟨hb5, World.ownsRow_nil _ _ _ _⟩)
        clear hu5 hb5 HA2 HR11
        go_wp2_with fail
        refine (aput_any _ W5.heap.size b2 kv l2 d2 (.slice none 0 0) [] W5 HA5.out HD2.out HW5.out (by simp) (Nat.le_refl _)).mono ?_
        rintro e w6 ⟨rfl, v6, hw6, hup6⟩
        rw [List.nil_append] at hw6
        have hu6 : Upd [kv] W5 w6 := hup6.upd.mono (by simp [Value.ownBlock])
        have HU6 := hd (HU5.out.trans' hu6 (by intro i hi; simp at hi; omega))
        have HA6 := hd (HA5.out.wr HW5.out hup6)
        have HR6 := hd (HR5.out.upd hu6 (by simpa using blk_ne HR5.out HW5.out.blk (by decide)))
        have HW6 := hd hw6
        clear hu6 hw6 hup6 HA5 HR5 HW5 HU5
        have HTX := hd (show Calls Try.prog 28 #[.pointer (some ⟨kv, 0, none⟩)] w6 fun e w' => e = .returned (.string (txt d2.bytes)) ∧ w6 = w' from
          (Text_any W5.heap.size kv v6 d2.bytes w6 HW6.out).mono (by rintro e w' ⟨rfl, rfl⟩; exact ⟨rfl, rfl⟩))
        have HTXD := hd (show Calls Try.prog 28 #[.pointer (some ⟨kv, 0, none⟩)] w6.drew fun e w' => e = .returned (.string (txt d2.bytes)) ∧ w6.drew = w' from
          (Text_any W5.heap.size kv v6 d2.bytes w6.drew ⟨HW6.out.blk.drew, own_upd HW6.out.own (Upd.refl [] _).drew (by simp)⟩).mono (by rintro e w' ⟨rfl, rfl⟩; exact ⟨rfl, rfl⟩))
        have HWT := hd (fun W (hu : Upd [] w6 W) => witness_any _ b2 l2 d2 W (HA6.out.later hu))
        rw [HQ1.out] at HWT
        go_wp2_with fail
        refine (left_rd q kq w6 HR6.out).mono ?_
        rintro e w7 ⟨rfl, rfl⟩
        generalize d2.bytes = BY at *
        have hwn : IntKind.i64.wrap ((T.length : Int) - (q.left.length : Int)) = BY.length := by rw [IntKind.wrap_i64]; omega
        have hwn2 : (T.length : Int) - (q.left.length : Int) = (BY.length : Int) := by omega
        have hcb : ((txt BY).toList == (txt BY).toList) = true := by simp
        have hbt : BY.length ≤ T.length := by omega
        clear HTK
        go_upto_region 25 with fail
        go_region_with (first
          | ((with_reducible refine HTX.out.mono ?_); rintro e w8 ⟨rfl, rfl⟩)
          | ((with_reducible refine HTXD.out.mono ?_); rintro e w8 ⟨rfl, rfl⟩)
          | ((with_reducible refine (HWT.out _ (by repeat (first | with_reducible exact Upd.refl _ _ | with_reducible refine Upd.drew ?_))).mono ?_); rintro e w9 ⟨rfl, rfl⟩))
        all_goals
          go_wp2_with fail
          go_ret
          first
          | exact ⟨rfl, HU6.out⟩
          | exact ⟨rfl, HU6.out.drew⟩
end Go.Proofs.Ytfhmdeamhmjddaa

namespace Go.Proofs.Ytfhmdeamhmjddaa.acceptBytes
open Go.ChangeShapes Go.WideShapes Go.ChangeAt Go.RowKit Go.Deep
set_option linter.unusedVariables false
set_option linter.unusedSimpArgs false

theorem own : ownKnob Try.prog.godebug = none := by kernel_rfl
theorem laidOut : laidOutB Try.prog = true := by kernel_rfl

/-- A text that came in. -/
theorem txt_in {H : Type} {enc : TypeId × Value → H} {w : World} {base : Nat} {spare : Nat → Bool} {held : Bool} {v : Value} {d : DataW H} {p : List MemPlace} (h : DataW.Trod enc Try.prog w base spare held 9 v d p) :
    ∃ l : List UInt8, v.cells.toList = [.string (txt l)] ∧ l.length ≤ 9223372036854775807 := by
  obtain ⟨fuel, hf⟩ := h
  obtain ⟨s, e, _, hs⟩ := DataW.trod_string Try.underlying9 hf
  refine ⟨s.data.toList, by rw [txt_data]; exact e, ?_⟩
  rw [Array.length_toList, ByteArray.size_data]
  simpa [maxLen] using hs

set_option maxRecDepth 100000 in
theorem lifted (os : Os) (started : os.Started) (H : Type) (enc : TypeId × Value → H) :
    ReturnsInHanded {} Try.checked os 7 .any (Rows.acceptBytesSpec.pre6 enc Try.prog Try.f7 Rows.acceptBytesRow.domain false) (Rows.acceptBytesSpec.post enc Try.prog Try.f7 false true false false) := by
  refine returnsInHanded_of_change (C := Try.checked) own started (by kernel_rfl) Try.func7
    (ChangeSpec.witness6 (enc := enc) (C := Try.checked) false ⟨#[], #[.bool false, .slice none 0 0, .string ⟨#[]⟩], []⟩ 8 (by kernel_rfl) (by kernel_rfl) (by kernel_rfl) (by kernel_rfl)) ?_
  intro W base args ds gs before hval0 hW hcnd _
  have hval : ∀ (j : Nat) t v, Try.f7.params[j]? = some t → args[j]? = some v → Value.okWide Try.prog W .any base t v := hval0
  have hW' := hW
  obtain ⟨p, q, hA0, hV, rfl, hfz, hnd⟩ := hW
  have hA : DataW.TrodAll enc Try.prog W 0 (fun _ => true) true Try.f7.params.toList args.toList ds p := hA0
  rw [Try.params7] at hA hval
  obtain ⟨v0, vs0, d0, ds0, p0, q0, hargs, rfl, rfl, h0, r0⟩ := trodAll_cons hA
  obtain ⟨v1, vs1, d1, ds1, p1, q1, rfl, rfl, rfl, h1, r1⟩ := trodAll_cons r0
  obtain ⟨v2, vs2, d2, ds2, p2, q2, rfl, rfl, rfl, h2, r2⟩ := trodAll_cons r1
  obtain ⟨rfl, rfl, rfl⟩ := trodAll_nil r2
  obtain rfl : args = #[v0, v1, v2] := by cases args; simp_all
  obtain ⟨rfl, rfl⟩ := trodVars_none hV
  obtain ⟨b0, rfl, rfl, rfl⟩ := open_bool Try.underlying4 (hval 0 4 v0 rfl rfl) h0
  obtain ⟨a1, len1, cap1, rfl⟩ := okWide_slice Try.underlying26 (hval 1 26 v1 rfl rfl)
  have k1 := h1
  have lt1 : ∀ x ∈ p1, x.block < W.heap.size := by obtain ⟨m, hm⟩ := k1; exact DataW.trod_lt m _ _ _ hm
  obtain ⟨n, hacts⟩ : ∃ n, Acts16C W (.slice a1 len1 cap1) n := by
    obtain ⟨fuel, hf⟩ := h1
    exact acts16c_at hf
  have k2 := h2
  have lt2 : ∀ x ∈ p2, x.block < W.heap.size := by obtain ⟨m, hm⟩ := k2; exact DataW.trod_lt m _ _ _ hm
  obtain ⟨s2, rfl⟩ := okWide_string Try.underlying9 (hval 2 9 v2 rfl rfl)
  obtain ⟨sb, e2, hsb⟩ := txt_in h2
  have e2 : [Value.string s2] = [Value.string (txt sb)] := e2
  simp only [List.cons.injEq, Value.string.injEq, and_true] at e2
  subst e2
  clear hA0 hval0
  refine (bytes16_law b0 _ n sb W hacts hsb).mono fun e W' ⟨he, hu⟩ => ?_
  have bel : Below W.heap.size W W' := hu.below (Nat.le_refl _) (by simp)
  subst he
  exact ⟨_, rfl, _, _, _, [], _, [], hW', trodAll_mk1 (shut_bool Try.underlying4 _), (trodAll_cons_mk (shut_bool Try.underlying4 _) (trodAll_cons_mk (Below.trod laidOut (by kernel_rfl) (of_decide_eq_true (by kernel_rfl)) k1 bel lt1) (trodAll_cons_mk (Below.trod laidOut (by kernel_rfl) (of_decide_eq_true (by kernel_rfl)) k2 bel lt2) trodAll_mk0))), rfl, bel.frame _, fun h => by cases h⟩

theorem over : Rows.acceptBytesRow.holds Try.pinned (OpenSpec.ofChange Rows.acceptBytesSpec) :=
  OpenClaim.holds_of_wide 7 Try.f7 rfl rfl rfl rfl rfl rfl rfl ⟨rfl, rfl, rfl, rfl, rfl⟩ rfl rfl rfl rfl rfl (by kernel_rfl) Try.func7 (by kernel_rfl)
    (of_decide_eq_true (by kernel_rfl)) (by unfold Func.isWrapper; first | (rw [if_pos (by decide +kernel)]; kernel_rfl) | (rw [if_neg (by decide +kernel)]; exact ⟨rfl, rfl⟩))
    (fun os started H enc _ => lifted os started H enc)

/-- The statement. -/
theorem proved : Rows.AcceptBytesSaid := over
end Go.Proofs.Ytfhmdeamhmjddaa.acceptBytes
