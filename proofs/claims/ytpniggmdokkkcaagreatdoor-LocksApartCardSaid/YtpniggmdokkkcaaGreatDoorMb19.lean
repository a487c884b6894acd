/-
  The fixed fact of layer 22's statements, walked: it holds. Condition: the library's variables hold what they are laid to hold.
-/
import Derived.Test.YtpniggmdokkkcaaGreatDoorMb18
set_option linter.unusedVariables false
set_option linter.unusedSimpArgs false
set_option maxRecDepth 100000
namespace Go.Proofs.YtpniggmdokkkcaaGreatDoor
open Go.RowKit

def awA : LkS := ⟨1, [[97]], true, 0⟩
def awB : LkS := ⟨2, [[97], [98]], false, 0⟩
def aw1 : BkS := ⟨[⟨1, [[97]], true, 1⟩], [], 1⟩
def aw2 : BkS := ⟨[⟨1, [[97]], true, 1⟩], [⟨2, [[97], [98]], false, 0⟩], 1⟩
def aw3 : BkS := ⟨[⟨2, [[97], [98]], false, 2⟩], [], 2⟩
theorem aw_a : acqP insK ⟨[], [], 0⟩ awA false = (aw1, ⟨1, [[97]], true, 1⟩, 0, 0) := by kernel_rfl
theorem aw_b : acqP insK aw1 awB true = (aw2, ⟨2, [[97], [98]], false, 0⟩, 1, 0) := by kernel_rfl
theorem aw_c : relP insK aw2 1 [[97]] = (aw3, [⟨2, [[97], [98]], false, 2⟩], 0) := by kernel_rfl
theorem six_a : Six [[97]] := six_good (by decide) (by decide)
theorem six_ab : Six [[97], [98]] := six_good (by decide) (by decide)
theorem wf_0 (last : Int) (h0 : 0 ≤ last) (h1 : last ≤ 18446744073709551615) : WfB ⟨[], [], last⟩ := ⟨by simp, by simp, by simp [SortedK], by simp, h0, h1⟩
theorem wf_1 : WfB aw1 := ⟨by simp [aw1]; exact six_a, by simp [aw1], by simp [aw1, SortedK], by simp [aw1], by simp [aw1], by simp [aw1]⟩
theorem wf_2 : WfB aw2 := ⟨by simp [aw2]; exact six_a, by simp [aw2]; exact six_ab, by simp [aw2, SortedK], by simp [aw2], by simp [aw2], by simp [aw2]⟩
theorem lit_pa : parse5 [47, 97] = some [[97]] := by decide
theorem lit_pab : parse5 [47, 97, 47, 98] = some [[97], [98]] := by decide
theorem door_lt {w : World} (h : Door w) : 1 < w.heap.size ∧ 0 < w.heap.size := by
  obtain ⟨h1, m, h2⟩ := h
  exact ⟨cell_lt' h1, cell_lt' h2⟩
theorem foot_nil (k : Nat) (i : Nat) : i ∈ foot k (.slice none 0 0) (.slice none 0 0) ↔ i = k := by simp [foot, Value.ownBlock]

set_option maxHeartbeats 8000000 in
theorem awake22_any (w : World) (hD : Door w) : Calls Tryz.prog 6 #[] w fun e w' => e = .returned (.bool true) ∧ Upd [] w w' := by
  have HD := hd hD
  have HL := hd (door_lt hD)
  have HAT := hd (fun W (h : Upd [] w W) => at22_any [47, 97] [[97]] W (hD.later h) (by decide) lit_pa)
  have HAB := hd (fun W (h : Upd [] w W) => at22_any [47, 97, 47, 98] [[97], [98]] W (hD.later h) (by decide) lit_pab)
  have t1 : txt [47, 97] = ⟨#[47, 97]⟩ := rfl
  have t2 : txt [47, 97, 47, 98] = ⟨#[47, 97, 47, 98]⟩ := rfl
  have t3 : txt (textL [[97]]) = ⟨#[47, 97]⟩ := rfl
  have t4 : txt (textL [[97], [98]]) = ⟨#[47, 97, 47, 98]⟩ := rfl
  rw [t1, t3] at HAT
  rw [t2, t4] at HAB
  clear hD t1 t2 t3 t4
  go_enter Tryz.func6, Tryz.ntmps6
  go_wp2_with fail
  refine (new_any 0 w).mono ?_
  rintro e w1 ⟨rfl, hu1, hb1⟩
  obtain ⟨k, hk⟩ : ∃ k, w.heap.size = k := ⟨_, rfl⟩
  rw [hk] at hb1 ⊢
  have HK := hd hk
  have HU1 := hd hu1
  have HB1 := hd hb1
  clear hu1 hb1 hk
  go_wp2_with fail
  refine (HAT.out w1 HU1.out).mono ?_
  rintro e w2 ⟨rfl, hu2⟩
  have HU2 := hd (HU1.out.trans hu2)
  have HA := hd (acquire_any awA false w2 (HB1.out.later hu2) (wf_0 0 (by decide) (by decide)) six_a (HD.out.later HU2.out) (by have := HL.out; have := HK.out; omega) (by have := HL.out; have := HK.out; omega) (by have := HU2.out.size; have := HK.out; omega))
  rw [aw_a] at HA
  have tA : awA.val = .agg #[.int .i64 1, .string ⟨#[47, 97]⟩, .bool true, .int .u64 0] := rfl
  have tA' : (⟨1, [[97]], true, 1⟩ : LkS).val = .agg #[.int .i64 1, .string ⟨#[47, 97]⟩, .bool true, .int .u64 1] := rfl
  simp only at HA
  rw [tA, tA'] at HA
  clear hu2 tA tA'
  go_wp2_with fail
  refine HA.out.mono ?_
  rintro e w3 ⟨vh3, vw3, rfl, hb3, hu3, hf3⟩
  have HF3 := hd (show ∀ g ∈ foot k vh3 vw3, k ≤ g from fun g hg => by
    rcases hf3 g hg with h | h
    · have := (foot_nil k g).1 h; omega
    · have := HU2.out.size; have := HK.out; omega)
  have HU3 := hd (HU2.out.trans' hu3 (fun i hi => .inr (by have := (foot_nil k i).1 hi; have := HK.out; omega)))
  have HB3 := hd hb3
  have e3 := one_lk w3 #[.int .i64 1, .string ⟨#[47, 97]⟩, .bool true, .int .u64 1] 42
  clear hb3 hu3 hf3
  go_upto_region 5 with fail
  obtain ⟨W4, k4, hk4, hW4, hu4, hb4⟩ := e3
  rw [hW4, hk4]
  have HU4 := hd (HU3.out.trans hu4)
  have HB4 := hd (HB3.out.later hu4)
  have H44 := hd hb4
  have HF44 := hd (show k4 ∉ foot k vh3 vw3 from fun hm => by have := HB3.out.lt k4 hm; omega)
  clear hk4 hW4 hu4 hb4
  go_wp2_with fail
  refine (HAB.out W4 HU4.out).mono ?_
  rintro e w5 ⟨rfl, hu5⟩
  have HU5 := hd (HU4.out.trans hu5)
  have HB5 := hd (HB4.out.later hu5)
  have H45 := hd (H44.out.upd hu5 (by simp))
  have HA2 := hd (acquire_any awB true w5 HB5.out wf_1 six_ab (HD.out.later HU5.out) (by have := HL.out; have := HK.out; omega) (by have := HL.out; have := HK.out; omega) (by have := HU5.out.size; have := HK.out; omega))
  rw [aw_b] at HA2
  have tA : awB.val = .agg #[.int .i64 2, .string ⟨#[47, 97, 47, 98]⟩, .bool false, .int .u64 0] := rfl
  have tA' : (⟨2, [[97], [98]], false, 0⟩ : LkS).val = .agg #[.int .i64 2, .string ⟨#[47, 97, 47, 98]⟩, .bool false, .int .u64 0] := rfl
  simp only at HA2
  rw [tA, tA'] at HA2
  clear hu5 tA tA'
  go_wp2_with fail
  refine HA2.out.mono ?_
  rintro e w6 ⟨vh6, vw6, rfl, hb6, hu6, hf6⟩
  have HF6 := hd (show ∀ g ∈ foot k vh6 vw6, k ≤ g from fun g hg => by
    rcases hf6 g hg with h | h
    · exact HF3.out g h
    · have := HU5.out.size; have := HK.out; omega)
  have HU6 := hd (HU5.out.trans' hu6 (fun i hi => .inr (by have := HF3.out i hi; have := HK.out; omega)))
  have HB6 := hd hb6
  have H46 := hd (H45.out.upd hu6 HF44.out)
  have e6 := one_lk w6 #[.int .i64 2, .string ⟨#[47, 97, 47, 98]⟩, .bool false, .int .u64 0] 42
  have HF46 := hd (show k4 ∉ foot k vh6 vw6 from fun hm => by
    rcases hf6 k4 hm with h | h
    · exact HF44.out h
    · have := H45.out.lt; omega)
  clear hb6 hu6 hf6
  go_upto_region 6 with fail
  obtain ⟨W7, k7, hk7, hW7, hu7, hb7⟩ := e6
  rw [hW7, hk7]
  have HU7 := hd (HU6.out.trans hu7)
  have HB7 := hd (HB6.out.later hu7)
  have H47 := hd (H46.out.upd hu7 (by simp))
  clear hk7 hW7 hu7 hb7
  go_wp2_with fail
  refine (HAT.out W7 HU7.out).mono ?_
  rintro e w8 ⟨rfl, hu8⟩
  have HU8 := hd (HU7.out.trans hu8)
  have HB8 := hd (HB7.out.later hu8)
  have H48 := hd (H47.out.upd hu8 (by simp))
  have hkl := HK.out
  have hll := HL.out
  have HRL := hd (release_any 1 [[97]] w8 HB8.out wf_2 (HD.out.later HU8.out) (fun hm => by have := HF6.out _ hm; omega) (fun hm => by have := HF6.out _ hm; omega) (by have := HU8.out.size; omega))
  rw [aw_c] at HRL
  have t3 : txt (textL [[97]]) = ⟨#[47, 97]⟩ := rfl
  rw [t3] at HRL
  simp only at HRL
  clear hu8 t3 hkl hll
  go_wp2_with fail
  refine HRL.out.mono ?_
  rintro e w9 ⟨vh9, vw9, vo, rfl, hb9, ho9, hu9, hf9⟩
  have h49 := H48.out.upd hu9 HF46.out
  have h4c := h49.cell
  have h4l := h49.lt
  have HLR := row_lks ho9
  obtain ⟨ao, co, rfl, -⟩ := own_open ho9
  obtain ⟨g, rfl, hgl, c0, c1, c2, c3⟩ := lks_get HLR (Upd.refl _ _) 0 (by simp)
  have hln : ([⟨2, [[97], [98]], false, 2⟩] : List LkS).length = 1 := rfl
  simp only [List.getElem_cons_zero, Nat.zero_mul, Nat.zero_add] at c0 c1 c2 c3
  have HU9 := hd (HU8.out.trans' hu9 (fun i hi => .inr (by have := HF6.out i hi; have := HK.out; omega)))
  clear h49 hb9 ho9 hu9 hf9 HLR
  rw [hln]
  go_wp2_with fail
  go_ret
  exact ⟨rfl, HU9.out⟩
end Go.Proofs.YtpniggmdokkkcaaGreatDoor

/-
  The statements' Is of layer 22, walked: a book that is the document's. Conditions: it is; good paths; the library's variables hold what they are laid to hold.
-/
set_option linter.unusedVariables false
set_option linter.unusedSimpArgs false
set_option maxRecDepth 100000
namespace Go.Proofs.YtpniggmdokkkcaaGreatDoor
open Go.RowKit

/-- What makes a book the document's. -/
structure IsDoc (d : BkS) (lh lw : List RLk) (last : Int) : Prop where
  len : d.held.length = lh.length
  held : ∀ y ∈ d.held, y ∈ fsts lh
  waits : d.waits = fsts lw
  last : d.last = last
  strict : d.held.Pairwise fun a b => ordI a b < 0
theorem strict_step {l : List LkS} (h : l.Pairwise fun a b => ordI a b < 0) {i : Nat} (hi : i + 1 < l.length) : ordI l[i] l[i + 1] < 0 := List.pairwise_iff_getElem.1 h i (i + 1) (by omega) hi (by omega)
theorem ordI_lt_cases {x y : LkS} (h : ordI x y < 0) : cmpL x.path y.path < 0 ∨ (cmpL x.path y.path = 0 ∧ x.ses < y.ses) := by
  unfold ordI orI at h
  by_cases hp : cmpL x.path y.path = 0
  · rw [if_pos hp] at h
    refine .inr ⟨hp, ?_⟩
    unfold cmpI at h
    split at h
    · assumption
    · split at h <;> omega
  · rw [if_neg hp] at h
    exact .inl h

set_option maxHeartbeats 8000000 in
theorem is22_any {B C k : Nat} {vh vw rh rw' : Value} {d : BkS} {lh lw : List RLk} (last : Int) (w : World) (hb : BookAt B w k vh vw d) (hD : Door w) (hf : WfB d) (hh : RRow C w rh lh) (hw : RRow C w rw' lw) (hI : IsDoc d lh lw last) (h61 : ∀ e ∈ lh, Six e.1.path) :
    Calls Tryz.prog 10 #[.pointer (some ⟨k, 0, none⟩), .agg #[rh, rw', .int .u64 last]] w fun r w' => r = .returned (.bool true) ∧ Upd [] w w' := by
  have hfew := hf.few
  have HHE := hd (fun W (hu : Upd [] w W) => held_any W (hb.later hu) (by omega))
  have HWA := hd (fun W (hu : Upd [] w W) => waits_any W (hb.later hu) (by omega))
  have HLA := hd (fun W (hu : Upd [] w W) => last_any W (hb.later hu))
  rw [hI.last] at HLA
  have HAL := hd (fun W (hu : Upd [] w W) v (hl : LksAt W v d.waits) => all22_any W (hD.later hu) hl (hw.later hu) hf.six2)
  have hdw : decide (d.waits = fsts lw) = true := decide_eq_true hI.waits
  rw [hdw] at HAL
  have HI := hd hI
  have HF := hd hf
  have HD := hd hD
  have HH := hd hh
  have HWW := hd hw
  have hlen : d.held.length = lh.length := hI.len
  obtain ⟨a1, c1, rfl, -⟩ := own_open hh.own
  obtain ⟨a2, c2, rfl, -⟩ := own_open hw.own
  have e0 := one_lk w #[.slice a1 lh.length c1, .slice a2 lw.length c2, .int .u64 last] 29
  clear hb hD hf hh hw hI hdw
  go_enter Tryz.func10, Tryz.ntmps10
  go_upto_region 1 with fail
  obtain ⟨W, kb, hkb, hW, hu, hbb⟩ := e0
  rw [hW, hkb]
  have HU := hd hu
  have HBB := hd hbb
  clear hkb hW hu hbb
  go_wp2_with fail
  refine (HHE.out W HU.out).mono ?_
  rintro r w1 ⟨v1, rfl, hu1, ho1⟩
  have HU1 := hd (HU.out.trans hu1)
  have HB1 := hd (HBB.out.upd hu1 (by simp))
  have hc1 := HB1.out.cell
  have hl1 := HB1.out.lt
  have HLK := hd (row_lks ho1)
  obtain ⟨b1, m1, rfl, -⟩ := own_open ho1
  clear hu1 ho1
  have hln' : ((d.held.length : Int) != (lh.length : Int)) = false := by simp [hlen]
  go_upto_region 2 with fail
  go_cut [34] (fun s34 wx => s34 = .bool false ∧ Upd [] w1 wx)
  case first =>
    go_region_with (first
      | ((with_reducible refine (HWA.out _ (HU1.out.drew)).mono ?_); rintro r w2 ⟨v2, rfl, hu2, ho2⟩; have HL2 := hd (row_lks ho2); obtain ⟨b2, m2, rfl, -⟩ := own_open ho2; have HUP2 := hd (((Upd.refl [] w1).drew).trans hu2); have hq2 := (HB1.out.upd HUP2.out (by simp)).cell; have hq2l := (HB1.out.upd HUP2.out (by simp)).lt; clear hu2 ho2)
      | ((with_reducible refine (HAL.out _ (HU1.out.trans HUP2.out) _ HL2.out).mono ?_); rintro r w3 ⟨rfl, hu3⟩; have HUP3 := hd (HUP2.out.trans hu3); have hq3 := (HB1.out.upd HUP3.out (by simp)).cell; have hq3l := (HB1.out.upd HUP3.out (by simp)).lt; clear hu3)
      | ((with_reducible refine (HLA.out _ (HU1.out.trans HUP3.out)).mono ?_); rintro r w4 ⟨rfl, rfl⟩)
      | fail "no arm")
    all_goals
      go_wp2_with fail
      go_meet
      case rel => exact ⟨by simp, HUP3.out⟩
  case rest =>
    obtain ⟨rfl, hux⟩ := hcut
    have HUX := hd (HU1.out.trans hux)
    have HLX := hd (HLK.out.later hux)
    have HBX := hd (HB1.out.upd hux (by simp))
    clear HLK hux hc1 hl1 hln'
    go_wp2_with fail
    go_loopw [6, 7, 8, 9, 37] (fun _ _ _ _ s37 wr => ∃ t : Nat, s37 = .int .i64 t ∧ t ≤ d.held.length ∧ Upd [] wc wr) (fun _ _ _ _ s37 _ => d.held.length - (intOf s37).toNat)
    case atStart => exact ⟨0, rfl, by omega, Upd.refl _ _⟩
    case round =>
      obtain ⟨t, rfl, ht, hu⟩ := hrel
      have HUR := hd (HUX.out.trans hu)
      have HUC := hd hu
      clear hu
      by_cases htn : t < d.held.length
      · have htn' : (t : Int) < (d.held.length : Int) := by omega
        have htl' : (t : Int) < (lh.length : Int) := by omega
        obtain ⟨g, rfl, hgl, c0, c1', c2', c3⟩ := lks_get HLX.out HUC.out t htn
        have HY6 := hd (HF.out.six1 d.held[t] (List.getElem_mem _))
        have HIN := hd (HI.out.held d.held[t] (List.getElem_mem _))
        have e1 := one_lk wr #[.int .i64 d.held[t].ses, .string (txt (textL d.held[t].path)), .bool d.held[t].excl, .int .u64 d.held[t].tok] 42
        have HYV := hd (show d.held[t].val = .agg #[.int .i64 d.held[t].ses, .string (txt (textL d.held[t].path)), .bool d.held[t].excl, .int .u64 d.held[t].tok] from rfl)
        have HPREV := hd (show ∀ u, t = u + 1 → ∃ x : LkS, Six x.path ∧ ordI x d.held[t] < 0 ∧ ∀ W, Upd [] wc W → W.cell? ⟨g, u * 4, none⟩ = some (.int .i64 x.ses) ∧ W.cell? ⟨g, u * 4 + 1, none⟩ = some (.string (txt (textL x.path))) from fun u hu => by
          subst hu
          refine ⟨d.held[u]'(by omega), HF.out.six1 _ (List.getElem_mem _), strict_step HI.out.strict htn, fun W hW => ?_⟩
          obtain ⟨k', e', -, q0, q1, -⟩ := lks_get HLX.out hW u (by omega)
          simp only [Option.some.injEq, Addr.mk.injEq, and_true] at e'
          subst e'
          exact ⟨q0, q1⟩)
        generalize d.held[t] = y at *
        go_upto_region 7 with fail
        obtain ⟨W3, k3, hk3, hW3, hu3, hb3⟩ := e1
        rw [hW3, hk3]
        have HU3 := hd (HUR.out.trans hu3)
        have HUC3 := hd (HUC.out.trans hu3)
        have HB3 := hd hb3
        have hc3 := hb3.cell
        clear hk3 hW3 hu3 hb3 c0 c1' c2' c3
        go_upto_if 43 with fail
        go_cut [8] (fun s8 wx => Upd [] W3 wx)
        case first =>
          rcases t with _ | u
          · go_wp2_with fail
            go_meet
            case rel => exact Upd.refl _ _
          · obtain ⟨x, hx6, hord, hcell⟩ := HPREV.out u rfl
            have hc := ordI_lt_cases hord
            have HCP := hd (fun q : Later [] W3 => pcompare_any (textL x.path) (textL y.path) q.world (HD.out.later (HU3.out.trans q.upd)) (by have := hx6.size; omega) (by have := HY6.out.size; omega))
            rw [hx6.parts, HY6.out.parts] at HCP
            have k0 : ∀ q : Later [] W3, q.world.cell? ⟨g, u * 4, none⟩ = some (.int .i64 x.ses) := fun q => (hcell _ (HUC3.out.trans q.upd)).1
            have k1 : ∀ q : Later [] W3, q.world.cell? ⟨g, u * 4 + 1, none⟩ = some (.string (txt (textL x.path))) := fun q => (hcell _ (HUC3.out.trans q.upd)).2
            have k2 : ∀ (q : Later [] W3) o, q.world.cell? ⟨k3, o, none⟩ = #[.int .i64 y.ses, .string (txt (textL y.path)), .bool y.excl, .int .u64 y.tok][o]? := fun q => (HB3.out.upd q.upd (by simp)).cell
            have hsub : ((u : Int) + 1) - 1 = (u : Int) := by omega
            have hul : (u : Int) < (lh.length : Int) := by omega
            have hul2 : (u : Int) < (d.held.length : Int) := by omega
            have hu0 : (0 : Int) ≤ (u : Int) := by omega
            have HXC := hd hc
            clear hc hord hcell hx6
            generalize cmpL x.path y.path = cq at *
            go_upto_region 8 with fail
            refine wp_region_later [] (by kernel_rfl) (by kernel_rfl) ?_
            repeat (go_big_quiet_step (first
              | (go_at_call 29; refine later_call (HCP.out _))))
            refine wpQuiet_nil ?_
            intro W9 hu9
            have HU9 := hd hu9
            have k0' : ∀ q : Later [] W9, q.world.cell? ⟨g, u * 4, none⟩ = some (.int .i64 x.ses) := fun q => k0 ⟨q.world, hu9.trans q.upd⟩
            have k2' : ∀ (q : Later [] W9) o, q.world.cell? ⟨k3, o, none⟩ = #[.int .i64 y.ses, .string (txt (textL y.path)), .bool y.excl, .int .u64 y.tok][o]? := fun q => k2 ⟨q.world, hu9.trans q.upd⟩
            clear hu9 k0 k1 k2 HCP
            go_upto_region 9 with fail
            rcases HXC.out with hlt | ⟨hz, hse⟩
            · have g1 : ¬ (0 : Int) < cq := by omega
              have g2 : (cq == 0) = false := by rw [beq_eq_false_iff_ne]; omega
              have g1' : decide ((0 : Int) < cq) = false := decide_eq_false g1
              refine wp_region_later [] (by kernel_rfl) (by kernel_rfl) ?_
              repeat (go_big_quiet_step (fail))
              refine wpQuiet_nil ?_
              intro W10 hu10
              have HU10 := hd (HU9.out.trans hu10)
              clear hu10 k0' k2'
              go_wp2_with fail
              go_meet
              case rel => exact HU10.out
            · subst hz
              have g3 : ¬ y.ses ≤ x.ses := by omega
              have g3' : decide (y.ses ≤ x.ses) = false := decide_eq_false g3
              refine wp_region_later [] (by kernel_rfl) (by kernel_rfl) ?_
              repeat (go_big_quiet_step (fail))
              refine wpQuiet_nil ?_
              intro W10 hu10
              have HU10 := hd (HU9.out.trans hu10)
              clear hu10 k0' k2'
              go_wp2_with fail
              go_meet
              case rel => exact HU10.out
        case rest =>
          have HU4 := hd (HU3.out.trans hcut)
          have HUC4 := hd (HUC3.out.trans hcut)
          have HB4 := hd (HB3.out.upd hcut (by simp))
          have HBK4 := hd (HBX.out.upd HUC4.out (by simp))
          clear hc3
          have hc4 := HB4.out.cell
          have hb4 := HBK4.out.cell
          clear hcut
          rename World => W4
          have HSM := hd (fun (z : RLk) (hz : z ∈ lh) W (hu : Upd [] w W) => sam22_any (C := C) y z W (HD.out.later hu) HY6.out (own_upd (L := []) (HH.out.path z hz) hu (by simp)))
          rw [HYV.out] at HSM
          clear HPREV
          go_wp2_with fail
          go_loopw [9, 73] (fun s9 s73 wr => ∃ j : Nat, s73 = .int .i64 j ∧ j ≤ lh.length ∧ s9 = .bool ((lh.take j).any fun z => decide (y = z.1)) ∧ Upd [] W4 wr) (fun _ s73 _ => lh.length - (intOf s73).toNat)
          case atStart => exact ⟨0, rfl, by omega, rfl, Upd.refl _ _⟩
          case round =>
            clear hc4 hb4
            obtain ⟨j, rfl, hj, rfl, hu⟩ := hrel
            have HU5 := hd (HU4.out.trans hu)
            have HUC5 := hd (HUC4.out.trans hu)
            have HU45 := hd hu
            have hy5 := (HB4.out.upd hu (by simp)).cell
            clear hu
            by_cases hjn : j < lh.length
            · have hjn' : (j : Int) < (lh.length : Int) := by omega
              obtain ⟨g2, qa, qc, rfl, hgl2, hqv, d0, d1, d2, d3⟩ := rk_get HH.out rfl HU5.out j hjn
              have HSZ := hd (HSM.out lh[j] (List.getElem_mem _))
              have HRZ := hd (show rval lh[j] = .agg #[.int .i64 lh[j].1.ses, .slice qa lh[j].1.path.length qc, .bool lh[j].1.excl, .int .u64 lh[j].1.tok] by unfold rval; rw [hqv])
              rw [HRZ.out] at HSZ
              have HTK := hd (show (lh.take (j + 1)).any (fun z => decide (y = z.1)) = ((lh.take j).any (fun z => decide (y = z.1)) || decide (y = lh[j].1)) by rw [List.take_succ_eq_append_getElem hjn, List.any_append]; simp)
              have e2 := one_lk wr #[.int .i64 lh[j].1.ses, .slice qa lh[j].1.path.length qc, .bool lh[j].1.excl, .int .u64 lh[j].1.tok] 67
              clear hqv HRZ
              generalize lh[j] = z at *
              generalize z.1.path.length = zn at *
              generalize (lh.take j).any (fun z => decide (y = z.1)) = fd at *
              go_upto_region 15 with fail
              obtain ⟨W6, k6, hk6, hW6, hu6, hb6⟩ := e2
              rw [hW6, hk6]
              have HU6 := hd (HU5.out.trans hu6)
              have HU46 := hd (HU45.out.trans hu6)
              have hz6 := hb6.cell
              have hy6 := (HB4.out.upd HU46.out (by simp)).cell
              have HC6 := hd (HSZ.out W6 HU6.out)
              clear hk6 hW6 hu6 hb6 d0 d1 d2 d3 hy5
              generalize decide (y = z.1) = dd at *
              cases fd with
              | true =>
                go_wp2_with fail
                go_roundw
                case rel => exact ⟨j + 1, by go_num, by omega, by rw [HTK.out]; rfl, HU46.out⟩
                case measure => simp [intOf]; omega
              | false =>
                go_wp2_with fail
                refine HC6.out.mono ?_
                rintro r w7 ⟨rfl, hu7⟩
                go_wp2_with fail
                go_roundw
                case rel => exact ⟨j + 1, by go_num, by omega, by rw [HTK.out]; simp, HU46.out.trans hu7⟩
                case measure => simp [intOf]; omega
            · have hjn' : ¬ (j : Int) < (lh.length : Int) := by omega
              have hfd : (lh.take j).any (fun z => decide (y = z.1)) = true := by
                rw [List.take_of_length_le (by omega)]
                obtain ⟨z, hz, hzy⟩ := List.mem_map.1 HIN.out
                exact List.any_eq_true.2 ⟨z, hz, by rw [hzy]; simp⟩
              rw [hfd]
              clear hfd hy5
              go_wp2_with fail
              go_roundw
              case rel => exact ⟨t + 1, by go_num, by omega, HUC5.out⟩
              case measure => simp [intOf]; omega
      · have htn' : ¬ (t : Int) < (d.held.length : Int) := by omega
        go_wp2_with fail
        go_ret
        exact ⟨rfl, HUR.out⟩
end Go.Proofs.YtpniggmdokkkcaaGreatDoor

/-
  The document's book with its paths' slices, and without: pump, Release, Drop alike; a book in relation is the document's. Plain laws; no program in sight.
-/
set_option linter.unusedVariables false
set_option linter.unusedSimpArgs false
namespace Go.Proofs.YtpniggmdokkkcaaGreatDoor

/-- A state without the paths' slices. -/
def unS (lw : List RLk) (st : RSt) : BkS × List LkS × List LkS := (⟨fsts st.held, fsts lw, st.last⟩, fsts st.out, fsts st.left)
theorem fsts_take (l : List RLk) (t : Nat) : fsts (l.take t) = (fsts l).take t := by simp [fsts, List.map_take]
theorem rst_pst (lh lw : List RLk) (last : Int) : ∀ t, t ≤ lw.length → unS lw (rst lh lw last t) = pst insE ⟨fsts lh, fsts lw, last⟩ t
  | 0, _ => rfl
  | t + 1, ht => by
    have ih := rst_pst lh lw last t (by omega)
    have hl : t < (fsts lw).length := by rw [fsts_length]; omega
    rw [rst_succ lh lw last t (by omega), pst_succ insE ⟨fsts lh, fsts lw, last⟩ t hl, ← ih]
    have hg : (fsts lw)[t]'hl = lw[t].1 := fsts_get lw t (by omega)
    show unS lw (rstep (rst lh lw last t) lw[t]) = pstep insE (unS lw (rst lh lw last t)) ((fsts lw)[t]'hl)
    rw [hg]
    generalize lw[t] = y at *
    generalize rst lh lw last t = st at *
    obtain ⟨h, l, o, f⟩ := st
    unfold rstep pstep unS
    simp only [fsts_any]
    split
    · rename_i hc
      simp only [fsts_app]
      rfl
    · simp only [fsts_app]
      rfl
theorem rkeep_same (key : LkS) (l : List RLk) : fsts (rkeep key false l) = (fsts l).filter (fun y => !sameB key y) := by
  have hk : ∀ e : LkS, keepR key false e = !sameB key e := by
    intro e
    unfold keepR sameB
    by_cases h : e.ses = key.ses
    · simp [h]
    · have h' : ¬ key.ses = e.ses := fun e2 => h e2.symm
      simp [h, h']
  unfold rkeep fsts
  rw [List.filter_map]
  congr 1
  exact List.filter_congr (fun e _ => hk e.1)
theorem rkeep_ses (s : Int) (l : List RLk) : fsts (rkeep ⟨s, [], false, 0⟩ true l) = (fsts l).filter (fun y => !decide (y.ses = s)) := by
  have hk : ∀ e : LkS, keepR ⟨s, [], false, 0⟩ true e = !decide (e.ses = s) := by
    intro e
    unfold keepR
    simp
  unfold rkeep fsts
  rw [List.filter_map]
  congr 1
  exact List.filter_congr (fun e _ => hk e.1)
theorem rst_pump (lh lw : List RLk) (last : Int) : pumpP insE ⟨fsts lh, fsts lw, last⟩ = (⟨fsts (rst lh lw last lw.length).held, fsts (rst lh lw last lw.length).left, (rst lh lw last lw.length).last⟩, fsts (rst lh lw last lw.length).out) := by
  have h := rst_pst lh lw last lw.length (Nat.le_refl _)
  unfold pumpP
  have hn : (⟨fsts lh, fsts lw, last⟩ : BkS).waits.length = lw.length := fsts_length lw
  rw [hn, ← h]
  rfl
theorem relR_relE (lh lw : List RLk) (last s : Int) (p : List (List UInt8)) :
    relE ⟨fsts lh, fsts lw, last⟩ s p = (⟨fsts (relR lh lw last s p).1.held, fsts (relR lh lw last s p).1.left, (relR lh lw last s p).1.last⟩, fsts (relR lh lw last s p).1.out, (relR lh lw last s p).2) := by
  unfold relE relR
  show (if (findB ⟨fsts lh, fsts lw, last⟩ ⟨s, p, false, 0⟩).2 < 0 then _ else _) = _
  have e : findB ⟨List.map Prod.fst lh, List.map Prod.fst lw, last⟩ ⟨s, p, false, 0⟩ = findB ⟨fsts lh, fsts lw, last⟩ ⟨s, p, false, 0⟩ := rfl
  rw [e]
  split
  · rfl
  · have hd : dropB (sameB ⟨s, p, false, 0⟩) ⟨fsts lh, fsts lw, last⟩ = ⟨fsts (rkeep ⟨s, p, false, 0⟩ false lh), fsts (rkeep ⟨s, p, false, 0⟩ false lw), last⟩ := by
      rw [rkeep_same, rkeep_same]
      rfl
    rw [hd, rst_pump]
theorem rdrop_drpP (lh lw : List RLk) (last s : Int) :
    drpP insE ⟨fsts lh, fsts lw, last⟩ s = (⟨fsts (rst (rkeep ⟨s, [], false, 0⟩ true lh) (rkeep ⟨s, [], false, 0⟩ true lw) last (rkeep ⟨s, [], false, 0⟩ true lw).length).held, fsts (rst (rkeep ⟨s, [], false, 0⟩ true lh) (rkeep ⟨s, [], false, 0⟩ true lw) last (rkeep ⟨s, [], false, 0⟩ true lw).length).left, (rst (rkeep ⟨s, [], false, 0⟩ true lh) (rkeep ⟨s, [], false, 0⟩ true lw) last (rkeep ⟨s, [], false, 0⟩ true lw).length).last⟩, fsts (rst (rkeep ⟨s, [], false, 0⟩ true lh) (rkeep ⟨s, [], false, 0⟩ true lw) last (rkeep ⟨s, [], false, 0⟩ true lw).length).out) := by
  unfold drpP
  have hd : dropB (fun y => decide (y.ses = s)) ⟨fsts lh, fsts lw, last⟩ = ⟨fsts (rkeep ⟨s, [], false, 0⟩ true lh), fsts (rkeep ⟨s, [], false, 0⟩ true lw), last⟩ := by
    rw [rkeep_ses, rkeep_ses]
    rfl
  rw [hd, rst_pump]
/-- A book in relation with the document's is the document's. -/
theorem isdoc_of {d : BkS} {lh lw : List RLk} {last : Int} (h : Rel d ⟨fsts lh, fsts lw, last⟩) : IsDoc d lh lw last := by
  refine ⟨?_, fun y hy => h.perm.mem_iff.1 hy, h.waits, h.last, ?_⟩
  · have := h.perm.length_eq
    rw [this]
    exact fsts_length lh
  · have hk : (kl d.held).Nodup := by
      have h1 := (keys_iff _).1 (List.pairwise_append.1 h.keys).1
      exact (h.perm.map _).nodup_iff.2 h1
    have hk2 := (keys_iff _).2 hk
    refine (List.Pairwise.and h.sorted hk2).imp (fun {a b} hab => ?_)
    rcases Int.lt_or_le (ordI a b) 0 with h1 | h1
    · exact h1
    · have h0 : ordI a b = 0 := by have := hab.1; omega
      have hz := ordI_zero h0
      exact absurd ⟨hz.2, hz.1⟩ hab.2
end Go.Proofs.YtpniggmdokkkcaaGreatDoor

/-
  What a book keeps through the calls: its order, its bounds, whose locks it has. Plain laws; no program in sight.
-/
set_option linter.unusedVariables false
set_option linter.unusedSimpArgs false
namespace Go.Proofs.YtpniggmdokkkcaaGreatDoor

def tot (d : BkS) : Nat := d.held.length + d.waits.length
/-- Whose locks a book has. -/
def Ses (P : Int → Prop) (d : BkS) : Prop := ∀ y ∈ d.held ++ d.waits, P y.ses
theorem tot_drop (p : LkS → Bool) (d : BkS) : tot (dropB p d) ≤ tot d := by
  have h1 := List.length_filter_le (fun x => !p x) d.held
  have h2 := List.length_filter_le (fun x => !p x) d.waits
  show (d.held.filter _).length + (d.waits.filter _).length ≤ _
  unfold tot
  omega
theorem ses_drop {P : Int → Prop} {d : BkS} (h : Ses P d) (p : LkS → Bool) : Ses P (dropB p d) := by
  intro y hy
  rcases List.mem_append.1 hy with hy | hy
  · exact h y (List.mem_append_left _ (List.mem_filter.1 hy).1)
  · exact h y (List.mem_append_right _ (List.mem_filter.1 hy).1)
theorem pst_ses {P : Int → Prop} {d : BkS} (h : Ses P d) : ∀ t, t ≤ d.waits.length → ∀ y ∈ (pst insK d t).1.held ++ (pst insK d t).2.2, P y.ses
  | 0, _ => fun y hy => by
    simp only [pst, List.take_zero, List.foldl_nil, List.append_nil] at hy
    exact h y (List.mem_append_left _ hy)
  | t + 1, ht => by
    have ih := pst_ses h t (by omega)
    have hx : P d.waits[t].ses := h _ (List.mem_append_right _ (List.getElem_mem _))
    rw [pst_succ insK d t (by omega)]
    generalize d.waits[t] = x at *
    generalize pst insK d t = st at *
    obtain ⟨b, out, left⟩ := st
    intro y hy
    unfold pstep at hy
    split at hy
    · rcases List.mem_append.1 hy with hy | hy
      · rcases insK_mem.1 hy with rfl | hy
        · exact hx
        · exact ih y (List.mem_append_left _ hy)
      · exact ih y (List.mem_append_right _ hy)
    · rcases List.mem_append.1 hy with hy | hy
      · exact ih y (List.mem_append_left _ hy)
      · rcases List.mem_append.1 hy with hy | hy
        · exact ih y (List.mem_append_right _ hy)
        · rw [List.mem_singleton.1 hy]; exact hx
theorem pump_tot {d : BkS} (h : WfB d) : tot (pumpP insK d).1 = tot d := by
  have hi := pst_inv h d.waits.length (Nat.le_refl _)
  have := hi.len
  show (pst insK d d.waits.length).1.held.length + (pst insK d d.waits.length).2.2.length = _
  unfold tot
  omega
theorem pump_ses {P : Int → Prop} {d : BkS} (h : Ses P d) : Ses P (pumpP insK d).1 := pst_ses h d.waits.length (Nat.le_refl _)
theorem acq_wf {P : Int → Prop} {d : BkS} (h : WfB d) (hs : Ses P d) (y : LkS) (wait : Bool) (hy : Six y.path) (hP : P y.ses) (hf : tot d + 1 ≤ 900) :
    WfB (acqP insK d y wait).1 ∧ tot (acqP insK d y wait).1 ≤ tot d + 1 ∧ Ses P (acqP insK d y wait).1 := by
  have hsame : WfB d ∧ tot d ≤ tot d + 1 ∧ Ses P d := ⟨h, by omega, hs⟩
  have hlow := h.low
  have hhigh := h.high
  unfold tot at hf
  unfold acqP
  split
  · split <;> exact hsame
  · split
    · exact hsame
    · split
      · split
        · exact hsame
        · rename_i hl
          refine ⟨⟨fun z hz => ?_, h.six2, insK_sorted h.sorted _, ?_, by simp only; omega, by simp only; omega⟩, ?_, fun z hz => ?_⟩
          · rcases insK_mem.1 hz with rfl | hz
            · exact hy
            · exact h.six1 z hz
          · simp only [insK_length]; omega
          · unfold tot; simp only [insK_length]; omega
          · rcases List.mem_append.1 hz with hz | hz
            · rcases insK_mem.1 hz with rfl | hz
              · exact hP
              · exact hs z (List.mem_append_left _ hz)
            · exact hs z (List.mem_append_right _ hz)
      · split
        · exact hsame
        · split
          · exact hsame
          · refine ⟨⟨h.six1, fun z hz => ?_, h.sorted, ?_, h.low, h.high⟩, ?_, fun z hz => ?_⟩
            · rcases List.mem_append.1 hz with hz | hz
              · exact h.six2 z hz
              · rw [List.mem_singleton.1 hz]; exact hy
            · simp only [List.length_append, List.length_singleton]; omega
            · unfold tot; simp only [List.length_append, List.length_singleton]; omega
            · rcases List.mem_append.1 hz with hz | hz
              · exact hs z (List.mem_append_left _ hz)
              · rcases List.mem_append.1 hz with hz | hz
                · exact hs z (List.mem_append_right _ hz)
                · rw [List.mem_singleton.1 hz]; exact hP
theorem rel_wf {P : Int → Prop} {d : BkS} (h : WfB d) (hs : Ses P d) (s : Int) (p : List (List UInt8)) : WfB (relP insK d s p).1 ∧ tot (relP insK d s p).1 ≤ tot d ∧ Ses P (relP insK d s p).1 := by
  have hd := dropB_wf (p := sameB ⟨s, p, false, 0⟩) h
  unfold relP
  split
  · exact ⟨hd, tot_drop _ _, ses_drop hs _⟩
  · exact ⟨pump_wf hd, by simp only; rw [pump_tot hd]; exact tot_drop _ _, pump_ses (ses_drop hs _)⟩
theorem drp_wf {P : Int → Prop} {d : BkS} (h : WfB d) (hs : Ses P d) (s : Int) : WfB (drpP insK d s).1 ∧ tot (drpP insK d s).1 ≤ tot d ∧ Ses P (drpP insK d s).1 := by
  have hd := dropB_wf (p := fun y => decide (y.ses = s)) h
  unfold drpP
  exact ⟨pump_wf hd, by rw [pump_tot hd]; exact tot_drop _ _, pump_ses (ses_drop hs _)⟩
/-- A lock of the book is found at its own key. -/
theorem find_held {d x : BkS} (h : Rel d x) {y : LkS} (hy : y ∈ d.held) : findB d ⟨y.ses, y.path, false, 0⟩ = (y, 0) := by
  have hyx : y ∈ x.held := h.perm.mem_iff.1 hy
  have hk : Six y.path := h.six y (List.mem_append_left _ hyx)
  have hu : ∀ z ∈ x.held, sameB ⟨y.ses, y.path, false, 0⟩ z = true → z = y := by
    intro z hz hp
    have hkz := (key_ne (x := ⟨y.ses, y.path, false, 0⟩) hk (h.six z (List.mem_append_left _ hz))).1 hp
    have hpw := (List.pairwise_append.1 h.keys).1
    obtain ⟨i, hi, rfl⟩ := List.getElem_of_mem hz
    obtain ⟨j, hj, rfl⟩ := List.getElem_of_mem hyx
    rcases Nat.lt_trichotomy i j with hlt | rfl | hlt
    · exact absurd ⟨hkz.1.symm, hkz.2.symm⟩ (List.pairwise_iff_getElem.1 hpw i j hi hj hlt)
    · rfl
    · exact absurd hkz (List.pairwise_iff_getElem.1 hpw j i hj hi hlt)
  have hs : sameB ⟨y.ses, y.path, false, 0⟩ y = true := by unfold sameB; simp
  obtain ⟨t, ht, hg⟩ := idx_found (p := sameB ⟨y.ses, y.path, false, 0⟩) hy hs (fun z hz hp => hu z (h.perm.mem_iff.1 hz) hp)
  unfold findB
  rw [ht, if_neg (by omega), Int.toNat_natCast, hg]
theorem find_waits {d x : BkS} (h : Rel d x) (k : Nat) (hk : k < d.waits.length) : findB d ⟨d.waits[k].ses, d.waits[k].path, false, 0⟩ = (d.waits[k], (k : Int) + 1) := by
  have hkx : k < x.waits.length := by rw [← h.waits]; exact hk
  have e : d.waits[k] = x.waits[k] := by simp only [h.waits]
  have hm : x.waits[k] ∈ x.waits := List.getElem_mem hkx
  have h6 : Six x.waits[k].path := h.six _ (List.mem_append_right _ hm)
  have hpw := List.pairwise_append.1 h.keys
  have hno : ∀ z ∈ d.held, sameB ⟨x.waits[k].ses, x.waits[k].path, false, 0⟩ z = false := by
    intro z hz
    have hzx := h.perm.mem_iff.1 hz
    rw [Bool.eq_false_iff]
    intro hp
    have hkz := (key_ne (x := ⟨x.waits[k].ses, x.waits[k].path, false, 0⟩) h6 (h.six z (List.mem_append_left _ hzx))).1 hp
    exact hpw.2.2 z hzx _ hm ⟨hkz.1.symm, hkz.2.symm⟩
  have hw : ∀ z ∈ d.waits.take k, sameB ⟨x.waits[k].ses, x.waits[k].path, false, 0⟩ z = false := by
    intro z hz
    rw [h.waits] at hz
    obtain ⟨i, hi, rfl⟩ := List.getElem_of_mem hz
    rw [List.length_take] at hi
    rw [List.getElem_take]
    rw [Bool.eq_false_iff]
    intro hp
    have hkz := (key_ne (x := ⟨x.waits[k].ses, x.waits[k].path, false, 0⟩) h6 (h.six _ (List.mem_append_right _ (List.getElem_mem (by omega))))).1 hp
    exact List.pairwise_iff_getElem.1 hpw.2.1 i k (by omega) hkx (by omega) ⟨hkz.1.symm, hkz.2.symm⟩
  have hs : sameB ⟨x.waits[k].ses, x.waits[k].path, false, 0⟩ d.waits[k] = true := by rw [e]; unfold sameB; simp
  rw [e]
  unfold findB
  rw [idxP_miss _ _ hno, if_pos (by decide), idxP_hit _ _ k hk hw hs, if_neg (by omega), Int.toNat_natCast, List.getD_eq_getElem?_getD, List.getElem?_eq_getElem hk]
  simp [e]
/-- A session without locks is not found. -/
theorem find_none {d : BkS} {s : Int} {p : List (List UInt8)} (h : Ses (fun z => z ≠ s) d) : (findB d ⟨s, p, false, 0⟩).2 = -1 := by
  have hno : ∀ z ∈ d.held ++ d.waits, sameB ⟨s, p, false, 0⟩ z = false := by
    intro z hz
    have := h z hz
    unfold sameB
    have h2 : ¬ s = z.ses := fun e => this e.symm
    simp [h2]
  unfold findB
  rw [idxP_miss _ _ (fun z hz => hno z (List.mem_append_left _ hz)), idxP_miss _ _ (fun z hz => hno z (List.mem_append_right _ hz))]
  rfl
end Go.Proofs.YtpniggmdokkkcaaGreatDoor

/-
  What Acquire, Release and Drop answer: plain facts for the statements' do. Plain laws; no program in sight.
-/
set_option linter.unusedVariables false
set_option linter.unusedSimpArgs false
namespace Go.Proofs.YtpniggmdokkkcaaGreatDoor

theorem acq_tok (ins : List LkS → LkS → List LkS) (d : BkS) (s : Int) (p : List (List UInt8)) (x : Bool) (t u : Int) (wait : Bool) : acqP ins d ⟨s, p, x, t⟩ wait = acqP ins d ⟨s, p, x, u⟩ wait := rfl
/-- A refusal hands back nothing. -/
theorem acq_err (ins : List LkS → LkS → List LkS) (d : BkS) (y : LkS) (wait : Bool) (h : (acqP ins d y wait).2.2.2 ≠ 0) : (acqP ins d y wait).2.1 = zeroK ∧ (acqP ins d y wait).2.2.1 = 0 := by
  revert h
  unfold acqP
  (repeat' split) <;> intro h <;> first | exact ⟨rfl, rfl⟩ | exact absurd rfl h
theorem idx_mem {p : LkS → Bool} {l : List LkS} (h : 0 ≤ idxP p l) : l.getD (idxP p l).toNat zeroK ∈ l := by
  rcases idxP_cases p l with ⟨h1, -⟩ | ⟨t, ht, h1, h2, h3⟩
  · omega
  · rw [h1, Int.toNat_natCast, List.getD_eq_getElem?_getD, List.getElem?_eq_getElem ht]
    exact List.getElem_mem ht
theorem find_mem {d : BkS} {key : LkS} (h : 0 ≤ (findB d key).2) : (findB d key).1 ∈ d.held ++ d.waits := by
  revert h
  unfold findB
  split
  · split
    · intro h
      exact absurd h (by decide)
    · intro _
      exact List.mem_append_right _ (idx_mem (by omega))
  · intro _
    exact List.mem_append_left _ (idx_mem (by omega))
theorem acq_six {d : BkS} (h : WfB d) (y : LkS) (wait : Bool) (hy : Six y.path) : Six (acqP insK d y wait).2.1.path := by
  have h0 : Six zeroK.path := six_nil
  unfold acqP
  split
  · rename_i hf
    split
    · exact h0
    · rcases List.mem_append.1 (find_mem hf) with hm | hm
      · exact h.six1 _ hm
      · exact h.six2 _ hm
  · (repeat' split) <;> first | exact h0 | exact hy
theorem pst_out {d : BkS} (h : WfB d) : ∀ t, t ≤ d.waits.length → ∀ y ∈ (pst insK d t).2.1, Six y.path
  | 0, _ => by simp [pst]
  | t + 1, ht => by
    have ih := pst_out h t (by omega)
    have hx := h.six2 d.waits[t] (List.getElem_mem _)
    rw [pst_succ insK d t (by omega)]
    generalize d.waits[t] = x at *
    generalize pst insK d t = st at *
    obtain ⟨b, out, left⟩ := st
    unfold pstep
    split
    · intro y hy
      rcases List.mem_append.1 hy with hy | hy
      · exact ih y hy
      · rw [List.mem_singleton.1 hy]; exact hx
    · exact ih
theorem pump_out {d : BkS} (h : WfB d) : ∀ y ∈ (pumpP insK d).2, Six y.path := pst_out h d.waits.length (Nat.le_refl _)
theorem rel_out {d : BkS} (h : WfB d) (s : Int) (p : List (List UInt8)) : ∀ y ∈ (relP insK d s p).2.1, Six y.path := by
  unfold relP
  split
  · simp
  · exact pump_out (dropB_wf h)
theorem drp_out {d : BkS} (h : WfB d) (s : Int) : ∀ y ∈ (drpP insK d s).2, Six y.path := pump_out (dropB_wf h)
/-- What the blocks of a book are. -/
theorem foot_kind {B k : Nat} {vh vw : Value} {d : BkS} {w : World} (h : BookAt B w k vh vw d) : ∀ i ∈ foot k vh vw, ∃ c T, Blk w i c T ∧ 67 ≠ T ∧ 9 ≠ T := by
  have row : ∀ {v : Value} {l : List LkS}, LkRow B w v l → ∀ i, v.ownBlock = some i → ∃ c T, Blk w i c T ∧ 67 ≠ T ∧ 9 ≠ T := by
    intro v l hr i hi
    rcases hr.2 with ⟨he, _⟩ | ⟨g', cap', cur, he, hbb, hgg, _⟩
    · rw [he] at hi; cases hi
    · rw [he] at hi
      simp only [Value.ownBlock, Option.some.injEq] at hi
      subst hi
      exact ⟨_, _, hgg, by decide, by decide⟩
  intro i hi
  rcases mem_foot.1 hi with rfl | hi | hi
  · exact ⟨_, _, h.blk, by decide, by decide⟩
  · exact row h.held i hi
  · exact row h.waits i hi
theorem BookAt.size {B k : Nat} {vh vw : Value} {d : BkS} {w : World} (h : BookAt B w k vh vw d) (j : Nat) (hj : w.heap.size ≤ j) : j ∉ foot k vh vw := fun hm => by have := h.lt j hm; omega
end Go.Proofs.YtpniggmdokkkcaaGreatDoor
