/-
  The document's acceptor (chatelaineref16): Trim, walked. Conditions: a list of entries that lies in a row of its own.
-/
import Derived.Test.YtfhmdeamhmjddaaBm7
import Derived.Test.YtfhmdeamhmjddaaBm8
set_option linter.unusedVariables false
set_option linter.unusedSimpArgs false
set_option maxRecDepth 100000
namespace Go.Proofs.Ytfhmdeamhmjddaa
open Go.RowKit

theorem Try.infoRefEnt : (Try.prog.info? 102).map (fun i => (i.zero, i.size, i.bytes)) = some (some (.agg #[.int .i64 0, .int .u64 0, .int .i64 0, .string ⟨#[]⟩]), 4, 40) := by kernel_rfl
/-- The document's list of entries l, in a row of its own at B or behind. -/
abbrev RefRow (B : Nat) (w : World) (v : Value) (l : List EntS) : Prop := w.ownsRow B 102 4 v l.length (entCells l)

set_option maxHeartbeats 4000000 in
theorem refTrim_any (B : Nat) (d : AccS) (l : Value) (base : Int) (w : World) (h : RefRow B w l d.list) (hl : d.list.length ≤ 1024) (hB : B ≤ w.heap.size) :
    Calls Try.prog 54 #[.agg (d.cells l), .int .i64 base] w fun e w' => ∃ l', e = .returned (.agg ((d.trim base).cells l')) ∧ Upd [] w w' ∧ RefRow B w' l' (d.trim base).list := by
  obtain ⟨a, cap, rfl, hnc, hcm, hac⟩ := own_open2 h
  obtain ⟨i0, hinf, hz0, hz1, hz2⟩ := info_parts Try.infoRefEnt
  have e2 := two_new w (d.cells (.slice a d.list.length cap)) #[.bool false, .int .u64 0, .int .i64 0, .int .i64 0, .slice none 0 0, .int .i64 0, .int .i64 0] 54
  simp only [AccS.cells] at e2
  have HT := hd (show d.trim base = if d.base < base then { d with base := base, list := d.list.filter (keptBy base) } else d from rfl)
  have H := hd h
  clear h
  have hcells : d.cells (.slice a d.list.length cap) = #[.bool d.wit, .int .u64 d.bal.c, .int .i64 d.bal.n, .int .i64 d.base, .slice a d.list.length cap, .int .i64 d.node, .int .i64 d.til] := rfl
  rw [hcells]
  clear hcells
  go_enter Try.func54, Try.ntmps54
  by_cases hb : d.base < base
  · have hb' : ¬ base ≤ d.base := by omega
    go_wp2_with fail
    have H0 := hd (show w.ownsRow w.heap.size 102 4 (.slice none 0 0) 0 (entCells []) from World.ownsRow_nil _ _ _ _)
    go_loopw [5, 19] (fun s5 c wr => ∃ t : Nat, c = .int .i64 t ∧ t ≤ d.list.length ∧ Upd [] w wr ∧ wr.ownsRow w.heap.size 102 4 s5 ((d.list.take t).filter (keptBy base)).length (entCells ((d.list.take t).filter (keptBy base))) ∧
      Blk wr w.heap.size #[.bool d.wit, .int .u64 d.bal.c, .int .i64 d.bal.n, .int .i64 base, .slice a d.list.length cap, .int .i64 d.node, .int .i64 d.til] 54 ∧ Blk wr (w.heap.size + 1) #[.bool false, .int .u64 0, .int .i64 0, .int .i64 0, .slice none 0 0, .int .i64 0, .int .i64 0] 54) (fun _ c _ => d.list.length - (intOf c).toNat)
    case atStart =>
      have hu0 := Upd.refl [] w
      refine ⟨0, rfl, by omega, (by repeat (first | with_reducible exact hu0 | with_reducible exact Upd.refl _ _ | with_reducible refine Upd.alloc ?_ _ | with_reducible refine Upd.drew ?_ | with_reducible refine Upd.setCell ?_ (by first | (simp; done) | (simp; omega)) _)), ?_, ?_, ?_⟩
      · refine ⟨rfl, .inr ⟨w.heap.size + 1 + 1, 0, #[], rfl, by omega, Blk.new' _ _ _ (by simp), by simp, by unfold maxLen; omega, rfl, rfl⟩⟩
      · exact ((Blk.new w _ _).alloc _).alloc _
      · exact (Blk.new' (w.alloc _) _ _ (k := w.heap.size + 1) (by simp)).alloc _
    case round =>
      obtain ⟨t, rfl, ht, hu, hown, hk2, hk4⟩ := hrel
      have HU := hd hu
      have HO := hd hown
      have HK2 := hd hk2
      have HK4 := hd hk4
      have HR := hd (own_upd H.out hu (by simp))
      have hlw := hk4.lt
      by_cases htl : t < d.list.length
      · obtain ⟨g, cap', hge, hgB, hgl, -, hgc, hgz⟩ := own_cases HR.out (by omega)
        simp only [Value.slice.injEq] at hge
        obtain ⟨rfl, -, rfl⟩ := hge
        obtain ⟨c0, c1, c2, c3⟩ := row_cells hgc t htl
        have htl' : (t : Int) < (d.list.length : Int) := by omega
        have HK := hd (show keptBy base d.list[t] = decide (base < d.list[t].slot) from rfl)
        have HTK := hd (show (d.list.take (t + 1)).filter (keptBy base) = (d.list.take t).filter (keptBy base) ++ (if keptBy base d.list[t] = true then [d.list[t]] else []) by
          rw [List.take_succ_eq_append_getElem htl, List.filter_append]
          by_cases hk : keptBy base d.list[t] = true <;> simp [hk])
        have hlen : ((d.list.take t).filter (keptBy base)).length ≤ t := by
          have := List.length_filter_le (keptBy base) (d.list.take t)
          rw [List.length_take] at this
          omega
        clear hgc hu hown hk2 hk4
        generalize d.list[t]'_ = e at *
        generalize (d.list.take t).filter (keptBy base) = fl at *
        obtain ⟨s, ⟨c, kk⟩, tx⟩ := e
        simp only at c0 c1 c2 c3 HK
        by_cases hsb : base < s
        · have hsb' : decide (base < s) = true := decide_eq_true hsb
          go_wp2_with (at_builtin; refine wpList_append_own_at _ rfl (.tmp 27) (.tmp 29) 52 rfl w.heap.size 102 i0 _ 4 40 Try.underlying52 hinf hz0 hz1 hz2 rfl (by decide) _ fl.length (entCells fl) rfl (own_upd (L := []) HO.out (((Upd.refl _ _).alloc _).alloc _) (by simp)) ⟨wr.heap.size + 1, 0, none⟩ 1 1 [.int .i64 s, .int .u64 c, .int .i64 kk, .string tx] rfl rfl (fun j u hj => by rw [Addr.add_lit, Nat.zero_add]; rw [Blk.cell (Blk.new' (wr.alloc _) #[.int .i64 s, .int .u64 c, .int .i64 kk, .string tx] _ (k := wr.heap.size + 1) (by simp)) j]; simpa using hj) (by intro u hu; simp only [List.mem_cons, List.not_mem_nil, or_false] at hu; rcases hu with rfl | rfl | rfl | rfl <;> rfl) (by unfold maxLen; omega) (by omega) (by simp; omega) ?_)
          intro v' w' hown' hgr _ hblk
          have hw0 := HU.out.size
          have hU' := Upd.of_grown hgr
          have hne : ∀ q, u5.ownBlock = some q → w.heap.size ≤ q := fun q hq => (own_ge HO.out q hq).1
          have HUW := hd ((((HU.out.alloc _).alloc _).trans' hU' (fun q hq => .inr (hne q (by simpa using hq)))))
          have HK2' := hd (Blk.upd ((HK2.out.alloc _).alloc _) hU' (fun hm => own_ne_any HO.out HK2.out (by decide) _ (by simpa using hm) rfl))
          have HK4' := hd (Blk.upd ((HK4.out.alloc _).alloc _) hU' (fun hm => own_ne_any HO.out HK4.out (by decide) _ (by simpa using hm) rfl))
          have HOW := hd hown'
          clear hown' hgr hblk hU'
          go_wp2_with fail
          go_roundw
          case rel =>
            refine ⟨t + 1, by go_num, by omega, HUW.out, ?_, HK2'.out, HK4'.out⟩
            rw [HTK.out, if_pos (by rw [HK.out]; simpa using hsb)]
            have h2 := HOW.out
            have e3 : entCells (fl ++ [⟨s, ⟨c, kk⟩, tx⟩]) = entCells fl ++ [.int .i64 s, .int .u64 c, .int .i64 kk, .string tx] := by simp [entCells, EntS.cells]
            rw [e3, List.length_append]
            exact h2
          case measure => simp [intOf]; omega
        · have hsb' : decide (base < s) = false := decide_eq_false hsb
          go_wp2_with fail
          go_roundw
          case rel =>
            refine ⟨t + 1, by go_num, by omega, HU.out.alloc _, ?_, HK2.out.alloc _, HK4.out.alloc _⟩
            rw [HTK.out, if_neg (by rw [HK.out]; simp; omega), List.append_nil]
            exact own_upd (L := []) HO.out ((Upd.refl _ _).alloc _) (by simp)
          case measure => simp [intOf]; omega
      · obtain rfl : t = d.list.length := by omega
        rw [List.take_length] at hown
        obtain ⟨xa, xc, rfl, -⟩ := own_open hown
        have HO' := hd hown
        have hc2 := hk2.cell
        have hz2' := hk2.frozen
        have hc4 := hk4.cell
        have hz4 := hk4.frozen
        clear hu hown hk2 hk4 HO HR
        go_wp2_with fail
        refine bodyPost_ret (v := _) (by simp [results, Try.results54, go_sem, hc4]; rfl) rfl ?_
        rw [HT.out, if_pos hb]
        have hu0 := HU.out
        have hx := Upd.refl [w.heap.size, w.heap.size + 1] wr
        refine ⟨_, rfl, ?_, ?_⟩
        · exact (HU.out.trans' (L := []) (M := [w.heap.size, w.heap.size + 1]) (by repeat (first | with_reducible exact hx | with_reducible exact Upd.refl _ _ | with_reducible refine Upd.alloc ?_ _ | with_reducible refine Upd.drew ?_ | with_reducible refine Upd.setCell ?_ (by first | (simp; done) | (simp; omega)) _)) (by simp))
        · exact own_mono (own_upd (L := [w.heap.size, w.heap.size + 1]) HO'.out (by repeat (first | with_reducible exact hx | with_reducible exact Upd.refl _ _ | with_reducible refine Upd.alloc ?_ _ | with_reducible refine Upd.drew ?_ | with_reducible refine Upd.setCell ?_ (by first | (simp; done) | (simp; omega)) _)) (fun q hq => by
            have h1 := own_ne_any HO'.out HK2.out (by decide) q hq
            have h2 := own_ne_any HO'.out HK4.out (by decide) q hq
            simp [h1, h2])) hB
  · have hb' : base ≤ d.base := by omega
    go_wp2_with fail
    refine bodyPost_ret (v := .agg #[.bool d.wit, .int .u64 d.bal.c, .int .i64 d.bal.n, .int .i64 d.base, .slice a d.list.length cap, .int .i64 d.node, .int .i64 d.til]) (by simp [results, Try.results54, go_sem]) rfl ?_
    rw [HT.out, if_neg (show ¬ d.base < base by omega)]
    have hu0 := Upd.refl [] w
    exact ⟨_, rfl, (by repeat (first | with_reducible exact hu0 | with_reducible exact Upd.refl _ _ | with_reducible refine Upd.alloc ?_ _ | with_reducible refine Upd.drew ?_ | with_reducible refine Upd.setCell ?_ (by first | (simp; done) | (simp; omega)) _)), own_upd (L := []) H.out (by repeat (first | with_reducible exact hu0 | with_reducible exact Upd.refl _ _ | with_reducible refine Upd.alloc ?_ _ | with_reducible refine Upd.drew ?_ | with_reducible refine Upd.setCell ?_ (by first | (simp; done) | (simp; omega)) _)) (by simp)⟩
end Go.Proofs.Ytfhmdeamhmjddaa

/-
  The document's acceptor (chatelaineref16): Ask, walked. Conditions: numbers that there may be.
-/
set_option linter.unusedVariables false
set_option linter.unusedSimpArgs false
set_option maxRecDepth 100000
namespace Go.Proofs.Ytfhmdeamhmjddaa
open Go.RowKit

theorem four_new (w : World) (A B C D : Array Value) (TA TB TC TD : TypeId) : ∃ W, (((w.alloc (.cells A TA)).alloc (.cells B TB)).alloc (.cells C TC)).alloc (.cells D TD) = W ∧ Upd [] w W ∧ Blk W w.heap.size A TA ∧ Blk W (w.heap.size + 1) B TB ∧ Blk W (w.heap.size + 1 + 1) C TC ∧ Blk W (w.heap.size + 1 + 1 + 1) D TD ∧ W.heap.size = w.heap.size + 4 :=
  ⟨_, rfl, ((((Upd.refl _ _).alloc _).alloc _).alloc _).alloc _, (((Blk.new _ _ _).alloc _).alloc _).alloc _, ((Blk.new' (w.alloc _) _ _ (by simp)).alloc _).alloc _, (Blk.new' ((w.alloc _).alloc _) _ _ (by simp)).alloc _, Blk.new' _ _ _ (by simp), by simp⟩

set_option maxHeartbeats 4000000 in
theorem refAsk_any (d : AccS) (a : Option Addr) (ln cp : Nat) (m : MsgS) (ma : Option Addr) (mn mc : Nat) (now long : Int) (w : World) (hf : d.fine) (hfr : TimeIn m.frm) (hnow : TimeIn now) (hlong : TimeIn long) :
    Calls Try.prog 53 #[.agg (d.cells (.slice a ln cp)), m.val (.slice ma mn mc), .int .i64 now, .int .i64 long] w fun e w' =>
      e = .returned (.tuple #[.agg ((d.ask m now long).1.cells (.slice a ln cp)), (d.ask m now long).2.1.val (.slice none 0 0)]) ∧ Upd [] w w' := by
  have ht0 := hf.til0
  have ht1 := hf.til1
  have hn0 := hf.node0
  have hn1 := hf.node1
  obtain ⟨hfr0, hfr1⟩ := hfr
  obtain ⟨hw0, hw1⟩ := hnow
  obtain ⟨hl0, hl1⟩ := hlong
  have e4 := four_new w (d.cells (.slice a ln cp)) (msgC m (.slice ma mn mc)) #[.bool false, .int .u64 0, .int .i64 0, .int .i64 0, .slice none 0 0, .int .i64 0, .int .i64 0] (msgC {} (.slice none 0 0)) 54 93 54 93
  have hab := refAbove_any d.bal m.bal
  have hrf := refRefuse_any d a ln cp
  have hot := refOthers_any d a ln cp m.frm now
  simp only [AccS.cells, msgC, MsgS.val] at e4 hrf hot
  rw [show d.cells (.slice a ln cp) = #[.bool d.wit, .int .u64 d.bal.c, .int .i64 d.bal.n, .int .i64 d.base, .slice a ln cp, .int .i64 d.node, .int .i64 d.til] from rfl]
  rw [show m.val (.slice ma mn mc) = .agg #[.int .i64 m.kind, .int .i64 m.frm, .int .i64 m.to, .int .i64 m.sub, .int .u64 m.bal.c, .int .i64 m.bal.n, .int .i64 m.slot, .int .i64 m.time, .bool m.okb, .string m.text, .slice ma mn mc] from rfl]
  have HAB := hd (show ∀ w, Calls Try.prog 76 #[.agg #[.int .u64 d.bal.c, .int .i64 d.bal.n], .agg #[.int .u64 m.bal.c, .int .i64 m.bal.n]] w fun e w' => e = .returned (.bool (d.low m.bal)) ∧ Upd [] w w' from hab)
  have HRF := hd hrf
  have HOT := hd hot
  clear hab hrf hot hf
  go_enter Try.func53, Try.ntmps53
  go_wp2_with fail
  obtain ⟨W, hW, hu, hA, hB, hC, hD, hsz⟩ := e4
  rw [hW]
  clear hW
  refine (HAB.out W).mono ?_
  rintro e W1 ⟨rfl, hu1⟩
  have HU1 := hd (hu.trans hu1)
  have HA := hd (hA.upd hu1 (by simp))
  have HB := hd (hB.upd hu1 (by simp))
  have HC := hd (hC.upd hu1 (by simp))
  have HD := hd (hD.upd hu1 (by simp))
  have hs1 := hu1.size
  clear hu hu1 hA hB hC hD
  have hac := HA.out.cell
  have hbc := HB.out.cell
  have hcc := HC.out.cell
  have hcz := HC.out.frozen
  have hdc := HD.out.cell
  have hdz := HD.out.frozen
  have n1 : ¬ (w.heap.size + 1 + 1 = w.heap.size) := by omega
  have n2 : ¬ (w.heap.size = w.heap.size + 1 + 1) := by omega
  have n3 : ¬ (w.heap.size + 1 + 1 + 1 = w.heap.size) := by omega
  have n4 : ¬ (w.heap.size = w.heap.size + 1 + 1 + 1) := by omega
  cases hl : d.low m.bal
  case true =>
    have HP := hd (show d.ask m now long = (d, { kind := 5, bal := d.bal }, false) by unfold AccS.ask; rw [if_pos hl])
    go_wp2_with fail
    go_region_held3 (fun w' => w'.cell? ⟨w.heap.size, 0, none⟩ = some (.bool d.wit) ∧ w'.cell? ⟨w.heap.size, 1, none⟩ = some (.int .u64 d.bal.c) ∧ w'.cell? ⟨w.heap.size, 2, none⟩ = some (.int .i64 d.bal.n) ∧ w'.cell? ⟨w.heap.size, 3, none⟩ = some (.int .i64 d.base) ∧ w'.cell? ⟨w.heap.size, 4, none⟩ = some (.slice a ln cp) ∧ w'.cell? ⟨w.heap.size, 5, none⟩ = some (.int .i64 d.node) ∧ w'.cell? ⟨w.heap.size, 6, none⟩ = some (.int .i64 d.til)) (go_keep)
      (first | ((with_reducible refine (HRF.out _ _).mono ?_); rintro e w2 ⟨rfl, hu2⟩; have hu3 := Upd.trans (Upd.refl [] W1).drew hu2; have k1 := (HA.out.upd hu3 (by simp)).cell; have k2 := (HC.out.upd hu3 (by simp)).cell; have k3 := (HC.out.upd hu3 (by simp)).frozen; have k4 := (HD.out.upd hu3 (by simp)).cell; have k5 := (HD.out.upd hu3 (by simp)).frozen; have HU3 := hd (HU1.out.trans hu3); clear hu2 hu3))
    go_wp2_with fail
    have hx := HU3.out
    refine bodyPost_ret (v := .tuple #[.agg #[.bool d.wit, .int .u64 d.bal.c, .int .i64 d.bal.n, .int .i64 d.base, .slice a ln cp, .int .i64 d.node, .int .i64 d.til], .agg #[.int .i64 5, .int .i64 0, .int .i64 0, .int .i64 0, .int .u64 d.bal.c, .int .i64 d.bal.n, .int .i64 0, .int .i64 0, .bool false, .string ⟨#[]⟩, .slice none 0 0]]) (by simp [results, Try.results53, go_sem, k2, k4]) rfl ?_
    rw [HP.out]
    exact ⟨rfl, (by repeat (first | with_reducible exact hx | with_reducible exact Upd.refl _ _ | with_reducible refine Upd.alloc ?_ _ | with_reducible refine Upd.drew ?_ | with_reducible refine Upd.setCell ?_ (by first | (simp; done) | (simp; omega)) _))⟩
  case false =>
    go_wp2_with fail
    refine (HOT.out W1 (by omega) (by omega)).mono ?_
    rintro e W2 ⟨rfl, hu2⟩
    have HU2 := hd (HU1.out.trans hu2)
    have HA2 := hd (HA.out.upd hu2 (by simp))
    have HB2 := hd (HB.out.upd hu2 (by simp))
    have HC2 := hd (HC.out.upd hu2 (by simp))
    have HD2 := hd (HD.out.upd hu2 (by simp))
    clear hac hbc hcc hcz hdc hdz HA HB HC HD HU1 hu2
    have hac := HA2.out.cell
    have hbc := HB2.out.cell
    have hcc := HC2.out.cell
    have hcz := HC2.out.frozen
    have hdc := HD2.out.cell
    have hdz := HD2.out.frozen
    cases ho : d.others m.frm now
    case true =>
      have hwr : IntKind.i64.wrap (d.til - now) = d.til - now := by rw [IntKind.wrap_i64]; omega
      have HP := hd (show d.ask m now long = (d, { kind := 5, bal := d.bal, time := d.til - now }, false) by unfold AccS.ask; rw [if_neg (by simp [hl]), if_pos ho])
      go_wp2_with fail
      go_region_held3 (fun w' => w'.cell? ⟨w.heap.size, 0, none⟩ = some (.bool d.wit) ∧ w'.cell? ⟨w.heap.size, 1, none⟩ = some (.int .u64 d.bal.c) ∧ w'.cell? ⟨w.heap.size, 2, none⟩ = some (.int .i64 d.bal.n) ∧ w'.cell? ⟨w.heap.size, 3, none⟩ = some (.int .i64 d.base) ∧ w'.cell? ⟨w.heap.size, 4, none⟩ = some (.slice a ln cp) ∧ w'.cell? ⟨w.heap.size, 5, none⟩ = some (.int .i64 d.node) ∧ w'.cell? ⟨w.heap.size, 6, none⟩ = some (.int .i64 d.til)) (go_keep)
        (first | ((with_reducible refine (HRF.out _ _).mono ?_); rintro e w2 ⟨rfl, hu2⟩; have hu3 := Upd.trans (Upd.refl [] W2).drew hu2; have k1 := (HA2.out.upd hu3 (by simp)).cell; have k2 := (HC2.out.upd hu3 (by simp)).cell; have k3 := (HC2.out.upd hu3 (by simp)).frozen; have k4 := (HD2.out.upd hu3 (by simp)).cell; have k5 := (HD2.out.upd hu3 (by simp)).frozen; have HU3 := hd (HU2.out.trans hu3); clear hu2 hu3))
      go_wp2_with fail
      have hx := HU3.out
      refine bodyPost_ret (v := .tuple #[.agg #[.bool d.wit, .int .u64 d.bal.c, .int .i64 d.bal.n, .int .i64 d.base, .slice a ln cp, .int .i64 d.node, .int .i64 d.til], .agg #[.int .i64 5, .int .i64 0, .int .i64 0, .int .i64 0, .int .u64 d.bal.c, .int .i64 d.bal.n, .int .i64 0, .int .i64 (d.til - now), .bool false, .string ⟨#[]⟩, .slice none 0 0]]) (by simp [results, Try.results53, go_sem, k2, k4]) rfl ?_
      rw [HP.out]
      exact ⟨rfl, (by repeat (first | with_reducible exact hx | with_reducible exact Upd.refl _ _ | with_reducible refine Upd.alloc ?_ _ | with_reducible refine Upd.drew ?_ | with_reducible refine Upd.setCell ?_ (by first | (simp; done) | (simp; omega)) _))⟩
    case false =>
      have haz := HA2.out.frozen
      have HLL := hd (show laterI now long = min (now + long) 1099511627776 from rfl)
      have hP : ∃ t : Int, t = (if m.frm + 1 = d.node then max (laterI now long) d.til else laterI now long) ∧ d.ask m now long = ({ d with bal := m.bal, node := m.frm + 1, til := t }, { kind := 11, bal := m.bal, time := m.time }, !(d.bal.c == m.bal.c && d.bal.n == m.bal.n) || !(m.frm + 1 == d.node && t == d.til)) :=
        ⟨_, rfl, by unfold AccS.ask; rw [if_neg (by simp [hl]), if_neg (by simp [ho])]⟩
      obtain ⟨t, ht, hask⟩ := hP
      have HT := hd ht
      have HASK := hd hask
      clear ht hask
      have hcmp : (1099511627776 < now + long ∧ laterI now long = 1099511627776 ∨ ¬ 1099511627776 < now + long ∧ laterI now long = now + long) := by unfold laterI; omega
      generalize laterI now long = LL at *
      have hgr : (¬ d.node = m.frm + 1) ∨ (d.node = m.frm + 1 ∧ LL < d.til) ∨ (d.node = m.frm + 1 ∧ ¬ LL < d.til) := by omega
      have hwn : IntKind.i64.wrap (now + long) = now + long := by rw [IntKind.wrap_i64]; omega
      have hwf : IntKind.i64.wrap (m.frm + 1) = m.frm + 1 := by rw [IntKind.wrap_i64]; omega
      have n5 : ¬ (w.heap.size + 1 = w.heap.size) := by omega
      have hu2 := HU2.out
      rcases hcmp with ⟨hc1, rfl⟩ | ⟨hc1, rfl⟩
      all_goals
        rcases hgr with hg | ⟨hg, hg2⟩ | ⟨hg, hg2⟩
      all_goals try (exfalso; omega)
      all_goals
        go_wp2_with fail
        go_region
        go_wp2_with fail
        refine bodyPost_ret (v := .tuple #[.agg #[.bool d.wit, .int .u64 m.bal.c, .int .i64 m.bal.n, .int .i64 d.base, .slice a ln cp, .int .i64 (m.frm + 1), .int .i64 t], .agg #[.int .i64 11, .int .i64 0, .int .i64 0, .int .i64 0, .int .u64 m.bal.c, .int .i64 m.bal.n, .int .i64 0, .int .i64 m.time, .bool false, .string ⟨#[]⟩, .slice none 0 0]]) (by
          have h1 := HT.out
          simp [results, Try.results53, go_sem, hcc, hdc]
          try omega) rfl ?_
        rw [HASK.out]
        exact ⟨rfl, (by repeat (first | with_reducible exact hu2 | with_reducible exact Upd.refl _ _ | with_reducible refine Upd.alloc ?_ _ | with_reducible refine Upd.drew ?_ | with_reducible refine Upd.setCell ?_ (by first | (simp; done) | (simp; omega)) _))⟩
end Go.Proofs.Ytfhmdeamhmjddaa

/-
  The document's ballots as bytes (chatelaineref08.Put), walked. Conditions: numbers that there may be.
-/
set_option linter.unusedVariables false
set_option linter.unusedSimpArgs false
set_option maxRecDepth 100000
namespace Go.Proofs.Ytfhmdeamhmjddaa
open Go.RowKit

theorem refBalPut_any (c : Nat) (n : Int) (w : World) (hc : c < 18446744073709551616) (hn : n ≤ 9223372036854775807) :
    Calls Try.prog 59 #[.agg #[.int .u64 c, .int .i64 n]] w fun e w' => e = .returned (.string (txt (uBytes c ++ nBytes n))) ∧ Upd [] w w' := by
  have hs : ∀ W : World, (Op.stringOp .add (txt (uBytes c)) (txt (nBytes n))).run Try.prog W = .ok (.string (txt (uBytes c ++ nBytes n))) W := fun W => by
    have h1 := uBytes_le c
    have h2 := nBytes_le n
    rw [run_string_add_sum _ _ _ (by simp; omega), txt_append]
  have HU := hd (refU_any c)
  have HN := hd (refN_any n)
  have e2 : ∃ W, w.alloc (.cells #[.int .u64 c, .int .i64 n] 31) = W ∧ Upd [] w W ∧ Blk W w.heap.size #[.int .u64 c, .int .i64 n] 31 := ⟨_, rfl, (Upd.refl _ _).alloc _, Blk.new _ _ _⟩
  go_enter Try.func59, Try.ntmps59
  go_wp2_with fail
  obtain ⟨W, hW, hu, hb⟩ := e2
  rw [hW]
  clear hW
  have hc0 : ∀ (y : Later [] W) o, y.world.cell? ⟨w.heap.size, o, none⟩ = #[Value.int .u64 c, .int .i64 n][o]? := fun y => (y.blk hb (by simp)).cell
  have HW := hd hu
  clear hu hb
  refine wp_region_later [] (by kernel_rfl) (by kernel_rfl) ?_
  repeat (go_big_quiet_step (first
    | (go_at_call 79; refine later_call (HU.out _ hc))
    | (go_at_call 60; refine later_call (HN.out _ hn))))
  refine wpQuiet_nil ?_
  intro W1 hu1
  go_wp2_with fail
  go_ret
  exact ⟨rfl, HW.out.trans hu1⟩
end Go.Proofs.Ytfhmdeamhmjddaa
