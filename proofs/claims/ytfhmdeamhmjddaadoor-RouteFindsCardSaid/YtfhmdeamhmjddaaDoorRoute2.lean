/-
  route.New, Len, Prefix, walked. Conditions: texts of sizes that there are; the library's variables hold what they are laid to hold.
-/
import Derived.Test.YtfhmdeamhmjddaaDoorRoute1
import Derived.Test.YtfhmdeamhmjddaaDoorMakes05
import Derived.Deep.RegionHeld3
import Derived.BigRegion
import Derived.Deep.AppendLies
import Derived.Deep.RegionLaw
import Derived.Deep.DrawnRows
set_option linter.unusedVariables false
set_option linter.unusedSimpArgs false
set_option maxRecDepth 100000
namespace Go.Proofs.YtfhmdeamhmjddaaDoor
open Go.RowKit

theorem Tryd.infoPath : (Tryd.prog.info? 24).map (fun i => (i.zero, i.size, i.bytes)) = some (some (.agg #[.string ⟨#[]⟩]), 1, 16) := by kernel_rfl
theorem tlen_any (B k : Nat) (l : List (List UInt8)) (w : World) (h : TabAt B w k l) : Calls Tryd.prog 23 #[.pointer (some ⟨k, 0, none⟩)] w fun e w' => e = .returned (.int .i64 l.length) ∧ w = w' := by
  obtain ⟨v, hb, hrow⟩ := h
  obtain ⟨a, c, rfl, -⟩ := own_open hrow
  have hc := hb.cell
  clear hrow
  go_enter Tryd.func23, Tryd.ntmps23
  go_wp2_with fail
  go_ret
  exact ⟨rfl, rfl⟩
/-- One path appended. -/
theorem pathAppend {ops : Array Oper} {rest : List Oper} {o : Oper} {a : Act} {w : World} {Q : Exit → Act → World → Prop} (hgd : o.guard = none) (s x : Operand)
    (ho : o.op = .call { callee := .builtin .append, args := #[s, x], argTypes := #[75, 75] })
    (B : Nat) (v : Value) (l : List (List UInt8)) (e : List UInt8) (hs : a.eval s = v) (hown : PathRow B w v l) (k : Nat) (hx : a.eval x = .slice (some ⟨k, 0, none⟩) 1 1) (hb : Blk w k #[.string (txt e)] 24)
    (hl : l.length ≤ 1000000) (hB : B ≤ w.heap.size)
    (h : ∀ v' w', PathRow B w' v' (l ++ [e]) → Upd v.ownBlock.toList w w' → wpList Tryd.prog ops Q rest (a.put o.dst v') w') : wpList Tryd.prog ops Q (o :: rest) a w := by
  obtain ⟨i0, hinf, hz0, hz1, hz2⟩ := info_parts Tryd.infoPath
  refine wpList_append_own_at w hgd s x 75 ho B 24 i0 _ 1 16 Tryd.underlying75 hinf hz0 hz1 hz2 rfl (by decide) v l.length (pathVals l) hs hown ⟨k, 0, none⟩ 1 1 [.string (txt e)] hx rfl (fun j u hj => by rw [Addr.add_lit, Nat.zero_add, Blk.cell hb j]; simpa using hj)
    (by intro u hu; simp only [List.mem_cons, List.not_mem_nil, or_false] at hu; rcases hu with rfl; rfl) (by unfold maxLen; omega) (by omega) hB ?_
  intro v' w' hown' hgr _ hat
  refine h v' w' ?_ (Upd.of_grown hgr)
  unfold PathRow
  rw [List.length_append]
  have e3 : pathVals (l ++ [e]) = pathVals l ++ [.string (txt e)] := by simp [pathVals]
  rw [e3]
  simpa using hown'
theorem row_ne {B k : Nat} {w : World} {v u : Value} {l : List (List UInt8)} (h : PathRow B w v l) (hb : Blk w k #[u] 77) : ∀ g, v.ownBlock = some g → g ≠ k := by
  rintro g hg rfl
  rcases h.2 with ⟨rfl, -⟩ | ⟨g', cap, cur, rfl, h1, h2, -⟩
  · cases hg
  · simp only [Value.ownBlock, Option.some.injEq] at hg
    subst hg
    have h3 : w.heap[g']? = some (.cells #[u] 77 (0, 0)) := hb
    rw [h2] at h3
    simp at h3
/-- The table once a path has been appended and laid back. -/
theorem tab_put {wx W w1 : World} {kt g cap : Nat} {v : Value} {u : Value} {o : Obj} {L : List (List UInt8)} {e : List UInt8} (hu : Upd [] wx W) (hk : wx.heap.size ≤ kt) (hrow : PathRow wx.heap.size W v L) (hbt : Blk W kt #[u] 77)
    (hq : Blk w1 kt #[u] 77) (hown : w1.ownsRow wx.heap.size 24 1 (.slice (some ⟨g, 0, none⟩) (L.length + 1) cap) (L.length + 1) (pathVals L ++ [.string (txt e)]))
    (hgr : ((W.alloc o).drew).grownBy w1 v.ownBlock) (hat : v.ownBlock = some g ∨ g = W.heap.size + 1) :
    Upd [] wx (w1.setCell ⟨kt, 0, none⟩ (.slice (some ⟨g, 0, none⟩) (L.length + 1) cap)) ∧ TabAt wx.heap.size (w1.setCell ⟨kt, 0, none⟩ (.slice (some ⟨g, 0, none⟩) (L.length + 1) cap)) kt (L ++ [e]) := by
  have hne := row_ne hrow hbt
  have hlt := hbt.lt
  have hgk : g ≠ kt := by
    rcases hat with h | h
    · exact hne g h
    · omega
  have hob : ∀ i ∈ v.ownBlock.toList, wx.heap.size ≤ i := by
    intro i hi
    rcases hrow.2 with ⟨rfl, -⟩ | ⟨g', cap', cur, rfl, h1, -⟩
    · simp [Value.ownBlock] at hi
    · simp only [Value.ownBlock, Option.toList_some, List.mem_singleton] at hi
      omega
  have h1 : Upd [] wx w1 := ((hu.alloc o).drew).trans' (Upd.of_grown hgr) (fun i hi => .inr (hob i hi))
  refine ⟨h1.setCell (.inr hk) _, _, hq.set 0 _, ?_⟩
  have h2 := own_upd (L := [kt]) hown ((Upd.refl _ _).setCell (p := ⟨kt, 0, none⟩) (by simp) (.slice (some ⟨g, 0, none⟩) (L.length + 1) cap)) (by simpa [Value.ownBlock] using hgk)
  unfold PathRow
  rw [List.length_append]
  have e3 : pathVals (L ++ [e]) = pathVals L ++ [.string (txt e)] := by simp [pathVals]
  rw [e3]
  simpa using h2
/-- All the parts, if each text is a path. -/
def parseAll : List (List UInt8) → Option (List (List (List UInt8)))
  | [] => some []
  | s :: l => match parse5 s with
    | none => none
    | some p => match parseAll l with
      | none => none
      | some r => some (p :: r)
theorem parseAll_app : ∀ (l m : List (List UInt8)), parseAll (l ++ m) = match parseAll l with
    | none => none
    | some p => match parseAll m with
      | none => none
      | some q => some (p ++ q)
  | [], m => by
    show parseAll m = _
    cases parseAll m <;> rfl
  | s :: l, m => by
    simp only [List.cons_append, parseAll, parseAll_app l m]
    cases parse5 s with
    | none => rfl
    | some p =>
      cases parseAll l with
      | none => rfl
      | some r =>
        cases parseAll m with
        | none => rfl
        | some q => rfl
/-- Is there one in line with one ahead of it, among the first t? -/
def clashAt (L : List (List UInt8)) (i : Nat) : Prop := 0 ≤ findIdx (fun x => overT (L.getD i []) x || overT x (L.getD i [])) (L.take i)
def clashTo (L : List (List UInt8)) (t : Nat) : Prop := ∃ i, i < t ∧ clashAt L i
/-- What New answers. -/
inductive NewOut
  | bad (l : List (Int × List UInt8))
  | ok (ps : List (List (List UInt8)))
noncomputable def newP : Option (List (List (List UInt8))) → NewOut
  | none => .bad ((10, [114, 111, 117, 116, 101]) :: noPath)
  | some ps => @ite _ (clashTo (ps.map textL) ps.length) (Classical.propDecidable _) (.bad noRoute) (.ok ps)
theorem newP_bad {ps : List (List (List UInt8))} (h : clashTo (ps.map textL) ps.length) : newP (some ps) = .bad noRoute := if_pos h
theorem newP_ok {ps : List (List (List UInt8))} (h : ¬ clashTo (ps.map textL) ps.length) : newP (some ps) = .ok ps := if_neg h
noncomputable def newR (l : List (List UInt8)) : NewOut := if l.length = 0 ∨ 4 < l.length then .bad [(12, [114, 111, 117, 116, 101]), (12, [])] else newP (parseAll l)
def NewAt (B : Nat) (w : World) (pv ev : Value) : NewOut → Prop
  | .bad l => pv = .pointer none ∧ ErrAt w ev l
  | .ok ps => ∃ k, pv = .pointer (some ⟨k, 0, none⟩) ∧ ev = .nilIface ∧ B ≤ k ∧ TabAt B w k (ps.map textL)

set_option maxHeartbeats 8000000 in
theorem new06_any (l : List (List UInt8)) (v : Value) (w : World) (hD : Door w) (hv : TxsAt w v l) (hl : ∀ x ∈ l, x.length ≤ 1000000) :
    Calls Tryd.prog 20 #[v] w fun e w' => ∃ pv ev, e = .returned (.tuple #[pv, ev]) ∧ Upd [] w w' ∧ NewAt w.heap.size w' pv ev (newR l) := by
  have HD := hd hD
  have HV := hd hv
  have HRW := hd (fun c (hc : c ≠ 0) W (h : Upd [] w W) => rwrong_any c W (hD.later h) hc)
  obtain ⟨a, c, rfl, hc1, hc2, -⟩ := hv
  clear hD
  go_enter Tryd.func20, Tryd.ntmps20
  go_upto_region 1 with fail
  go_cut [18] (fun s18 wx => s18 = .bool (decide (l.length = 0 ∨ 4 < l.length)) ∧ wx = w)
  case first =>
    rcases (by omega : l.length = 0 ∨ (0 < l.length ∧ l.length ≤ 4) ∨ 4 < l.length) with h | h | h
    · have h1 : ((l.length : Int) == 0) = true := by rw [beq_iff_eq]; omega
      have HX := hd (show decide (l.length = 0 ∨ 4 < l.length) = true from decide_eq_true (by omega))
      go_wp2_with fail
      go_meet
      case rel => exact ⟨by rw [HX.out], rfl⟩
    · have h1 : ((l.length : Int) == 0) = false := by rw [beq_eq_false_iff_ne]; omega
      have h2 : ¬ (4 : Int) < (l.length : Int) := by omega
      have HX := hd (show decide (l.length = 0 ∨ 4 < l.length) = false from decide_eq_false (by omega))
      go_wp2_with fail
      go_meet
      case rel => exact ⟨by rw [HX.out], rfl⟩
    · have h1 : ((l.length : Int) == 0) = false := by rw [beq_eq_false_iff_ne]; omega
      have h2 : (4 : Int) < (l.length : Int) := by omega
      have HX := hd (show decide (l.length = 0 ∨ 4 < l.length) = true from decide_eq_true (by omega))
      go_wp2_with fail
      go_meet
      case rel => exact ⟨by rw [HX.out], rfl⟩
  case rest =>
    obtain ⟨rfl, rfl⟩ := hcut
    rename World => wx0
    by_cases hlen : l.length = 0 ∨ 4 < l.length
    · have hdc : decide (l.length = 0 ∨ 4 < l.length) = true := by simpa using hlen
      have HN := hd (show newR l = .bad [(12, [114, 111, 117, 116, 101]), (12, [])] from if_pos hlen)
      rw [hdc]
      clear hlen hdc
      go_wp2_with fail
      refine (HRW.out 12 (by decide) _ (Upd.refl _ _)).mono ?_
      rintro e w1 ⟨ev, rfl, hu1, hev⟩
      go_wp2_with fail
      go_ret2
      refine ⟨_, _, rfl, hu1, ?_⟩
      rw [HN.out]
      exact ⟨rfl, hev⟩
    · have hdc : decide (l.length = 0 ∨ 4 < l.length) = false := by simpa using hlen
      have HLN := hd hlen
      have HN := hd (show newR l = newP (parseAll l) from if_neg hlen)
      have hl4 : l.length ≤ 4 := by omega
      rw [hdc]
      clear hlen hdc
      have e0 : ∃ W k, wx0.heap.size = k ∧ wx0.alloc (.cells #[.slice none 0 0] 77) = W ∧ Upd [] wx0 W ∧ TabAt wx0.heap.size W k [] := ⟨_, _, rfl, rfl, (Upd.refl _ _).alloc _, _, Blk.new _ _ _, World.ownsRow_nil _ _ _ _⟩
      go_upto_region 4 with fail
      obtain ⟨W0, kt, hkt, hW0, hu0, ht0⟩ := e0
      rw [hW0, hkt]
      have HKT := hd (show wx0.heap.size ≤ kt by omega)
      have HU0 := hd hu0
      have HT0 := hd ht0
      have HL4 := hd hl4
      clear hW0 hkt hu0 ht0
      go_wp2_with fail
      go_loopw [24] (fun s24 wr => ∃ (t : Nat) (ps : List (List (List UInt8))), s24 = .int .i64 t ∧ t ≤ l.length ∧ parseAll (l.take t) = some ps ∧ ps.length = t ∧ Upd [] wx0 wr ∧ TabAt wx0.heap.size wr kt (ps.map textL)) (fun s24 _ => l.length - (intOf s24).toNat)
      case atStart => exact ⟨0, [], rfl, by omega, rfl, rfl, HU0.out, HT0.out⟩
      case round =>
        clear HU0 HT0
        obtain ⟨t, ps, rfl, ht, hps, hpl, hu, htab⟩ := hrel
        have HU := hd hu
        have HT := hd htab
        have HPS := hd hps
        have HPL := hd hpl
        clear hu htab hps hpl
        by_cases htn : t < l.length
        · have htn' : (t : Int) < (l.length : Int) := by omega
          obtain ⟨a', c', e, q1, q2, q3⟩ := HV.out
          simp only [Value.slice.injEq] at e
          obtain ⟨rfl, -, rfl⟩ := e
          obtain ⟨kl, ol, rfl, hkl, hcl⟩ := q3 (by omega)
          have hc0 : wr.cell? ⟨kl, ol + t, none⟩ = some (.string (txt l[t])) := by rw [← hcl t htn]; exact World.cell?_of_block (HU.out.block kl hkl (by simp))
          have hx := hl l[t] (List.getElem_mem _)
          have HP := hd (pparse_any l[t] wr (HD.out.later HU.out) hx)
          have HSN := hd (show parseAll (l.take (t + 1)) = match parse5 l[t] with
              | none => none
              | some q => some (ps ++ [q]) by
            rw [List.take_succ_eq_append_getElem htn, parseAll_app, HPS.out]
            simp only [parseAll]
            cases parse5 l[t] with
            | none => rfl
            | some q => rfl)
          have HBAD := hd (show parseAll (l.take (t + 1)) = none → parseAll l = none from fun h => by
            rw [← List.take_append_drop (t + 1) l, parseAll_app, h])
          clear hcl q3
          generalize parse5 l[t] = o at *
          generalize l[t] = x at *
          go_wp2_with fail
          refine HP.out.mono ?_
          rintro e w2 ⟨p, ev, rfl, hu2, hans⟩
          obtain ⟨T, rfl⟩ := hans.shape
          have e0 : ∃ W k, w2.heap.size = k ∧ w2.alloc (.cells #[.string T] 24) = W ∧ Upd [] w2 W ∧ Blk W k #[.string T] 24 := ⟨_, _, rfl, rfl, (Upd.refl _ _).alloc _, Blk.new _ _ _⟩
          have HU2 := hd (HU.out.trans hu2)
          have HT2 := hd (HT.out.later hu2)
          have HA2 := hd hans
          clear hu2 hans
          go_upto_region 8 with fail
          obtain ⟨W3, kj, hkj, hW3, hu3, hb3⟩ := e0
          rw [hW3, hkj]
          have HU3 := hd (HU2.out.trans hu3)
          have HT3 := hd (HT2.out.later hu3)
          have HB3 := hd hb3
          have HA3 := hd (HA2.out.later (Ls := []) hu3 (by simp))
          clear hW3 hkj hu3 hb3 HU2 HT2 HA2
          cases o with
          | none =>
            obtain ⟨hT, hev⟩ := HA3.out
            have HW := hd (fwrap_any ev 10 _ _ [114, 111, 117, 116, 101] W3 (HD.out.later HU3.out) hev)
            have HNB := hd (show newR l = .bad ((10, [114, 111, 117, 116, 101]) :: noPath) by rw [HN.out, HBAD.out (by rw [HSN.out])]; rfl)
            have hsh := hev.shape
            clear hev hT
            rcases hsh with rfl | ⟨kk, rfl⟩
            · exact absurd HA3.out.2 (by rintro ⟨_, _, h, _⟩; cases h)
            · go_wp2_with fail
              refine HW.out.mono ?_
              rintro e w4 ⟨ev4, rfl, hu4, hev4⟩
              go_wp2_with fail
              go_ret2
              refine ⟨_, _, rfl, HU3.out.trans hu4, ?_⟩
              rw [HNB.out]
              exact ⟨rfl, hev4⟩
          | some q =>
            obtain ⟨hT, rfl⟩ := HA3.out
            simp only [Value.agg.injEq, Array.mk.injEq, List.cons.injEq, Value.string.injEq, and_true] at hT
            subst hT
            obtain ⟨L, hL⟩ : ∃ L, ps.map textL = L := ⟨_, rfl⟩
            have hpl' : L.length ≤ 4 := by rw [← hL, List.length_map, HPL.out]; omega
            have HL := hd hL
            obtain ⟨vt, hbt, hrow⟩ := HT3.out
            rw [hL] at hrow
            clear hL
            obtain ⟨at', ct, rfl, -⟩ := own_open hrow
            have HBT := hd hbt
            have HROW := hd hrow
            obtain ⟨i0, hinf, hz0, hz1, hz2⟩ := info_parts Tryd.infoPath
            have hbc := hbt.cell
            have hjc := HB3.out.cell
            have hbz := hbt.frozen
            have hblt := hbt.lt
            have HNE := hd (row_ne hrow hbt)
            have hB3 : wx0.heap.size ≤ W3.heap.size := HU3.out.size
            have htwo : (t : Int) + 1 ≤ 9223372036854775807 := by omega
            clear hbt hrow
            go_upto_region 10 with fail
            go_region_law ((refine step_append_lies _ (by rfl) _ _ _ (by rfl) wx0.heap.size 24 i0 _ 1 16 Tryd.underlying75 hinf hz0 hz1 hz2 rfl (by omega) (.slice at' L.length ct) L.length (pathVals L) (by rfl) (own_upd (L := []) HROW.out (((Upd.refl _ _).drew).alloc _) (fun _ _ => by simp)) ⟨W3.heap.size, 0, none⟩ 1 1 [_] (by rfl) (by rfl) (World.news_of_block (heap_alloc_new W3 _)) (by intro u hu; simp at hu; subst hu; rfl) (by omega) (by simp only [maxLen]; omega) (by omega) (by simp; omega) (W3.heap.size + 1) (by simp) ?_; intro g cap w1 hown hgrow hat hlt1; have hq := Blk.upd ((HBT.out.alloc _).drew) (Upd.of_grown hgrow) (by simpa using fun e => HNE.out _ e rfl); have hqc := hq.cell 0; have hqf := hq.frozen 0; have hql := hq.lt; have HQ := hd hq; have HOWN := hd hown; have HGR := hd hgrow; have HAT := hd hat; clear hq hown hgrow hat))
            all_goals
              go_wp2_with fail
              go_roundw
              case rel =>
                have hp := tab_put HU3.out HKT.out HROW.out HBT.out HQ.out HOWN.out HGR.out HAT.out
                refine ⟨t + 1, ps ++ [q], by go_num, by omega, HSN.out, by rw [List.length_append, HPL.out]; rfl, hp.1, ?_⟩
                rw [List.map_append, HL.out]
                exact hp.2
              case measure => simp [intOf]; omega
        · have hall := HPS.out
          rw [show t = l.length by omega, List.take_length] at hall
          have HNW := hd (show newR l = newP (some ps) by rw [HN.out, hall])
          obtain ⟨L, hL⟩ : ∃ L, ps.map textL = L := ⟨_, rfl⟩
          have hpl' : L.length ≤ 4 := by rw [← hL, List.length_map, HPL.out]; omega
          have HLL := hd (show ps.length = L.length by rw [← hL, List.length_map])
          have HL := hd hL
          obtain ⟨vt, hbt, hrow⟩ := HT.out
          rw [hL] at hrow
          have HPA := hd (prow_paths hrow)
          have HROW := hd hrow
          obtain ⟨at', ct, rfl, hnc, hcm, -⟩ := own_open hrow
          have HBT := hd hbt
          have hbc := hbt.cell
          have htn' : ¬ (t : Int) < (l.length : Int) := by omega
          clear hL hbt hrow hall
          generalize wr = W1 at *
          go_wp2_with fail
          go_loopw [53] (fun s53 wr => ∃ i : Nat, s53 = .int .i64 i ∧ i ≤ L.length ∧ ¬ clashTo L i ∧ Upd [] W1 wr) (fun s53 _ => L.length - (intOf s53).toNat)
          case atStart => exact ⟨0, rfl, by omega, by rintro ⟨i, h, -⟩; omega, Upd.refl _ _⟩
          case round =>
            clear hbc
            obtain ⟨i, rfl, hi, hncl, huw⟩ := hrel
            have HUW := hd huw
            have HNC := hd hncl
            have HBW := hd (HBT.out.upd huw (by simp))
            have hbc := HBW.out.cell
            clear huw hncl
            by_cases hin : i < L.length
            · have hin' : (i : Int) < (L.length : Int) := by omega
              obtain ⟨a', c', e, q1, q2, q3⟩ := HPA.out
              simp only [Value.slice.injEq] at e
              obtain ⟨rfl, -, rfl⟩ := e
              obtain ⟨kl, ol, rfl, hkl, hcl⟩ := q3 (by omega)
              have hc0 : wr.cell? ⟨kl, ol + i, none⟩ = some (.string (txt L[i])) := by rw [← hcl i hin]; exact World.cell?_of_block (HUW.out.block kl hkl (by simp))
              have HSN := hd (show clashTo L (i + 1) ↔ clashAt L i from ⟨by
                rintro ⟨j, h1, h2⟩
                rcases Nat.lt_succ_iff_lt_or_eq.mp h1 with h | rfl
                · exact absurd ⟨j, h, h2⟩ HNC.out
                · exact h2, fun h => ⟨i, by omega, h⟩⟩)
              have HG := hd (show L.getD i [] = L[i] by rw [List.getD_eq_getElem?_getD, List.getElem?_eq_getElem hin]; rfl)
              have HCA := hd (show clashAt L i ↔ decide (0 ≤ findIdx (fun x => overT L[i] x || overT x L[i]) (L.take i)) = true by rw [decide_eq_true_iff]; unfold clashAt; rw [HG.out])
              clear hcl q3 HG
              have e0 : ∃ W k, wr.heap.size = k ∧ wr.alloc (.cells #[.string (txt L[i])] 24) = W ∧ Upd [] wr W ∧ Blk W k #[.string (txt L[i])] 24 := ⟨_, _, rfl, rfl, (Upd.refl _ _).alloc _, Blk.new _ _ _⟩
              go_upto_region 15 with fail
              obtain ⟨W3, kj, hkj, hW3, hu3, hb3⟩ := e0
              rw [hW3, hkj]
              have HU3 := hd (HUW.out.trans hu3)
              have HB3 := hd (HBW.out.upd hu3 (by simp))
              have hbc3 := HB3.out.cell
              have HC := hd (contains_any L[i] kj (L.take i) (.slice (some ⟨kl, ol, none⟩) i ct) W3 (PathsAt.take (HPA.out.upd HU3.out) i (by omega)) hb3)
              clear hW3 hkj hu3 hb3 hbc
              generalize decide (0 ≤ findIdx (fun x => overT L[i] x || overT x L[i]) (L.take i)) = b at *
              have hic : i ≤ ct := by omega
              have hic' : (i : Int) ≤ (ct : Int) := by omega
              have hi0 : (0 : Int) ≤ (i : Int) := by omega
              have hi1 : (i : Int) + 1 ≤ 9223372036854775807 := by omega
              cases b with
              | true =>
                have HX := hd (show newR l = .bad noRoute by
                  rw [HNW.out]
                  exact newP_bad (by rw [HL.out, HLL.out]; exact ⟨i, hin, HCA.out.mpr rfl⟩))
                go_wp2_with fail
                refine HC.out.mono ?_
                rintro e w4 ⟨rfl, hu4⟩
                have HU4 := hd (HU.out.trans (HU3.out.trans hu4))
                clear hu4
                go_wp2_with fail
                refine (HRW.out 11 (by decide) _ HU4.out).mono ?_
                rintro e w5 ⟨ev, rfl, hu5, hev⟩
                go_wp2_with fail
                go_ret2
                refine ⟨_, _, rfl, HU4.out.trans hu5, ?_⟩
                rw [HX.out]
                exact ⟨rfl, hev⟩
              | false =>
                have HX := hd (show ¬ clashTo L (i + 1) from fun h => by
                  have := HCA.out.mp (HSN.out.mp h)
                  cases this)
                go_wp2_with fail
                refine HC.out.mono ?_
                rintro e w4 ⟨rfl, hu4⟩
                have HU4 := hd (HU3.out.trans hu4)
                clear hu4
                go_wp2_with fail
                go_roundw
                case rel => exact ⟨i + 1, by go_num, by omega, HX.out, HU4.out⟩
                case measure => simp [intOf]; omega
            · have hin' : ¬ (i : Int) < (L.length : Int) := by omega
              have HX := hd (show newR l = .ok ps by
                rw [HNW.out]
                exact newP_ok (by rw [HL.out, HLL.out, show L.length = i by omega]; exact HNC.out))
              go_wp2_with fail
              go_ret2
              refine ⟨_, _, rfl, HU.out.trans HUW.out, ?_⟩
              rw [HX.out]
              refine ⟨kt, rfl, rfl, HKT.out, ?_⟩
              rw [HL.out]
              exact ⟨_, HBW.out, own_upd (L := []) HROW.out HUW.out (by simp)⟩
end Go.Proofs.YtfhmdeamhmjddaaDoor
