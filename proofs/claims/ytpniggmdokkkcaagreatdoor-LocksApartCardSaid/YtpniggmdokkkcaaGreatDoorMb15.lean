/-
  pump of the document's book, walked. Conditions: good paths; few locks.
-/
import Derived.Test.YtpniggmdokkkcaaGreatDoorMb14
set_option linter.unusedVariables false
set_option linter.unusedSimpArgs false
set_option maxRecDepth 100000
namespace Go.Proofs.YtpniggmdokkkcaaGreatDoor
open Go.RowKit

/-- The document's pump, on locks with their paths' slices: (held, last, out, left). -/
structure RSt where
  held : List RLk
  last : Int
  out : List RLk
  left : List RLk
def rstep (st : RSt) (x : RLk) : RSt :=
  if st.last < 18446744073709551615 ∧ (!(st.held.any fun e => conflB x.1 e.1) && !(st.left.any fun e => conflB x.1 e.1)) = true then
    ⟨st.held ++ [rtok st.last x], st.last + 1, st.out ++ [rtok st.last x], st.left⟩
  else ⟨st.held, st.last, st.out, st.left ++ [x]⟩
def rst (lh lw : List RLk) (last : Int) (t : Nat) : RSt := (lw.take t).foldl rstep ⟨lh, last, [], []⟩
theorem rst_succ (lh lw : List RLk) (last : Int) (t : Nat) (h : t < lw.length) : rst lh lw last (t + 1) = rstep (rst lh lw last t) lw[t] := by
  unfold rst
  rw [List.take_succ_eq_append_getElem h, List.foldl_append]
  rfl
structure RInv (lh lw : List RLk) (t : Nat) (st : RSt) : Prop where
  len : st.held.length + st.left.length = lh.length + t
  len2 : st.out.length + st.left.length = t
  low : 0 ≤ st.last
  mem1 : ∀ e ∈ st.held, ∃ e' ∈ lh ++ lw, e.2 = e'.2 ∧ e.1.path = e'.1.path
  mem2 : ∀ e ∈ st.left, e ∈ lw
  mem3 : ∀ e ∈ st.out, ∃ e' ∈ lh ++ lw, e.2 = e'.2 ∧ e.1.path = e'.1.path
theorem rst_inv {lh lw : List RLk} {last : Int} (h0 : 0 ≤ last) : ∀ t, t ≤ lw.length → RInv lh lw t (rst lh lw last t)
  | 0, _ => ⟨rfl, rfl, h0, fun e he => ⟨e, List.mem_append_left _ he, rfl, rfl⟩, by simp [rst], by simp [rst]⟩
  | t + 1, ht => by
    have ih := rst_inv (lh := lh) (lw := lw) h0 t (by omega)
    rw [rst_succ lh lw last t (by omega)]
    have hx : lw[t] ∈ lh ++ lw := List.mem_append_right _ (List.getElem_mem _)
    have hx2 : lw[t] ∈ lw := List.getElem_mem _
    generalize lw[t] = x at *
    generalize rst lh lw last t = st at *
    unfold rstep
    split
    · rename_i hc
      refine ⟨?_, ?_, ?_, fun e he => ?_, ih.mem2, fun e he => ?_⟩
      · have := ih.len; simp only [List.length_append, List.length_singleton]; omega
      · have := ih.len2; simp only [List.length_append, List.length_singleton]; omega
      · have := ih.low; simp only; omega
      · rcases List.mem_append.1 he with he | he
        · exact ih.mem1 e he
        · rw [List.mem_singleton.1 he]; exact ⟨x, hx, rfl, rfl⟩
      · rcases List.mem_append.1 he with he | he
        · exact ih.mem3 e he
        · rw [List.mem_singleton.1 he]; exact ⟨x, hx, rfl, rfl⟩
    · refine ⟨?_, ?_, ih.low, ih.mem1, fun e he => ?_, ih.mem3⟩
      · have := ih.len; simp only [List.length_append, List.length_singleton]; omega
      · have := ih.len2; simp only [List.length_append, List.length_singleton]; omega
      · rcases List.mem_append.1 he with he | he
        · exact ih.mem2 e he
        · rw [List.mem_singleton.1 he]; exact hx2
/-- The paths of the locks in a state lie in rows of their own. -/
def RPaths (B : Nat) (w : World) (l : List RLk) : Prop := ∀ e ∈ l, StrRow B w e.2 e.1.path ∧ Six e.1.path
theorem rpaths_of {B : Nat} {w : World} {l m : List RLk} (h : RPaths B w l) (hm : ∀ e ∈ m, ∃ e' ∈ l, e.2 = e'.2 ∧ e.1.path = e'.1.path) : RPaths B w m := by
  intro e he
  obtain ⟨e', he', h1, h2⟩ := hm e he
  have := h e' he'
  rw [h1, h2]
  exact this
theorem RPaths.later {B : Nat} {w w' : World} {l : List RLk} (h : RPaths B w l) (hu : Upd [] w w') : RPaths B w' l := fun e he => ⟨own_upd (L := []) (h e he).1 hu (by simp), (h e he).2⟩
theorem res_rp (fn : Func) (s t : Nat) (hr : fn.results = #[.cell s 29, .tmp t]) (tmps : Array Value) (W : World) (k : Nat) (vh vw : Value) (last : Int) (v : Value) (hs : tmps[s]? = some (.pointer (some ⟨k, 0, none⟩))) (ht : tmps[t]? = some v)
    (h : Blk W k #[vh, vw, .int .u64 last] 29) (h1 : ∃ a n c, vh = .slice a n c) (h2 : ∃ a n c, vw = .slice a n c) :
    (results fn tmps).run Tryz.prog W = .ok (.tuple #[.agg #[vh, vw, .int .u64 last], v]) W := by
  simp [results, hr, hs, ht, asAddr, load_rb W k vh vw last h h1 h2]

set_option maxHeartbeats 8000000 in
theorem rpump_any {B : Nat} {vh vw : Value} {lh lw : List RLk} (last : Int) (w : World) (hh : RRow B w vh lh) (hw : RRow B w vw lw) (h61 : ∀ e ∈ lh, Six e.1.path) (h62 : ∀ e ∈ lw, Six e.1.path) (hl : lh.length + lw.length ≤ 900) (h0 : 0 ≤ last) (hB : B ≤ w.heap.size) :
    Calls Tryz.prog 49 #[.agg #[vh, vw, .int .u64 last]] w fun r w' =>
      ∃ vh' vw' vo, r = .returned (.tuple #[.agg #[vh', vw', .int .u64 (rst lh lw last lw.length).last], vo]) ∧ RRow B w' vh' (rst lh lw last lw.length).held ∧ RRow B w' vw' (rst lh lw last lw.length).left ∧ RRow B w' vo (rst lh lw last lw.length).out ∧ Upd [] w w' := by
  have HPA := hd (show RPaths B w (lh ++ lw) from fun e he => (List.mem_append.1 he).elim (fun h => ⟨hh.path e h, h61 e h⟩) (fun h => ⟨hw.path e h, h62 e h⟩))
  have HS := hd (rst_succ lh lw last)
  have HI := hd (fun t ht => rst_inv (lh := lh) (lw := lw) h0 t ht)
  have HRV := hd (fun e a c (h : e.2 = .slice a e.1.path.length c) => show rval e = .agg #[.int .i64 e.1.ses, .slice a e.1.path.length c, .bool e.1.excl, .int .u64 e.1.tok] by unfold rval; rw [h])
  have HW := hd hw
  have HH0 := hd hh
  obtain ⟨a1, c1, rfl, -⟩ := own_open hh.own
  obtain ⟨a2, c2, rfl, -⟩ := own_open hw.own
  have e0 := two_lk2 w #[.slice a1 lh.length c1, .slice a2 lw.length c2, .int .u64 last] #[.slice none 0 0, .slice none 0 0, .int .u64 0] 29 29
  clear hh hw h61 h62
  go_enter Tryz.func49, Tryz.ntmps49
  go_upto_region 1 with fail
  obtain ⟨W, kb, kr, hkb, hkr, hW, hu, hb, hbr⟩ := e0
  rw [hW, hkb, hkr]
  have HKK := hd (show w.heap.size ≤ kb ∧ w.heap.size ≤ kr from ⟨by omega, by omega⟩)
  have nbr : ¬ (kb = kr) := by omega
  have nrb : ¬ (kr = kb) := by omega
  have e3 := two_lk2 W #[] #[] 67 67
  have HU := hd hu
  have HB := hd hb
  have HBR := hd hbr
  have HWS := hd (show w.heap.size ≤ W.heap.size from hu.size)
  clear hW hkb hkr hu hb hbr
  go_upto_region 3 with fail
  obtain ⟨W2, ke, kf, hke, hkf, hW2, hu2, hbe, hbf⟩ := e3
  rw [hW2, hke, hkf]
  have HEO := hd (show W2.ownsRow w.heap.size 67 4 (.slice (some ⟨ke, 0, none⟩) 0 0) 0 (rCells []) ∧ W2.ownsRow w.heap.size 67 4 (.slice (some ⟨kf, 0, none⟩) 0 0) 0 (rCells []) from ⟨empty_row hbe (by have := HWS.out; omega), empty_row hbf (by have := HWS.out; omega)⟩)
  have nef : ¬ (ke = kf) := by omega
  have HU2 := hd (HU.out.trans hu2)
  have hb2 := HB.out.upd hu2 (by simp)
  have HB2 := hd hb2
  have HBR2 := hd (HBR.out.upd hu2 (by simp))
  have hc2 := hb2.cell
  have hl2 := hb2.lt
  clear hW2 hke hkf hu2 hbe hbf hb2
  go_wp2_with fail
  go_loopw [4, 5, 15] (fun s4 s5 s15 wr => ∃ t vh', s15 = .int .i64 (t : Nat) ∧ t ≤ lw.length ∧ Blk wr kb #[vh', .slice a2 lw.length c2, .int .u64 (rst lh lw last t).last] 29 ∧ Blk wr kr #[.slice none 0 0, .slice none 0 0, .int .u64 0] 29 ∧
    wr.ownsRow B 67 4 vh' (rst lh lw last t).held.length (rCells (rst lh lw last t).held) ∧ wr.ownsRow w.heap.size 67 4 s4 (rst lh lw last t).out.length (rCells (rst lh lw last t).out) ∧ wr.ownsRow w.heap.size 67 4 s5 (rst lh lw last t).left.length (rCells (rst lh lw last t).left) ∧ Upd [] w wr ∧ Off s4 vh' ∧ Off s5 vh' ∧ Off s4 s5) (fun _ _ s15 _ => lw.length - (intOf s15).toNat)
  case atStart =>
    refine ⟨0, .slice a1 lh.length c1, rfl, by omega, HB2.out, HBR2.out, own_upd (L := []) HH0.out.own HU2.out (by simp), HEO.out.1, HEO.out.2, HU2.out, ?_, ?_, ?_⟩
    · intro g hg hg'
      have h1 := (own_ge HH0.out.own g hg').2
      have h2 := (own_ge HEO.out.1 g hg).1
      omega
    · intro g hg hg'
      have h1 := (own_ge HH0.out.own g hg').2
      have h2 := (own_ge HEO.out.2 g hg).1
      omega
    · intro g hg hg'
      simp only [Value.ownBlock, Option.some.injEq] at hg hg'
      omega
  case round =>
    clear HEO
    obtain ⟨t, vh', rfl, ht, hbk, hbr, hho, hoo, hlo, hu, hf1, hf2, hf3⟩ := hrel
    have HV := hd (HI.out t ht)
    have HU := hd hu
    have HBK := hd hbk
    have HBR := hd hbr
    have HHO := hd hho
    have HOO := hd hoo
    have HLO := hd hlo
    have HF1 := hd hf1
    have HF2 := hd hf2
    have HF3 := hd hf3
    have hkc := hbk.cell
    have hkl := hbk.lt
    obtain ⟨ah, ch, rfl, -⟩ := own_open hho
    obtain ⟨ao, co, rfl, -⟩ := own_open hoo
    obtain ⟨al, cl, rfl, -⟩ := own_open hlo
    have hsz := hu.size
    clear hu hho hoo hlo hf1 hf2 hf3 hc2 hl2
    by_cases htn : t < lw.length
    · clear hbk hbr
      have htn' : (t : Int) < (lw.length : Int) := by omega
      have HST := hd (HS.out t htn)
      obtain ⟨g, qa, qc, rfl, hgl, hqv, d0, d1, d2, d3⟩ := rk_get HW.out rfl HU.out t htn
      have HX := hd (HPA.out lw[t] (List.mem_append_right _ (List.getElem_mem _)))
      have e1 := one_lk wr #[.int .i64 lw[t].1.ses, .slice qa lw[t].1.path.length qc, .bool lw[t].1.excl, .int .u64 lw[t].1.tok] 67
      have HRX := hd (HRV.out lw[t] qa qc hqv)
      have HQV := hd hqv
      clear hqv
      generalize lw[t] = x at *
      have hlen := HV.out.len
      have hlen2 := HV.out.len2
      have hlow := HV.out.low
      have HPH := hd (rpaths_of HPA.out HV.out.mem1)
      have HPL := hd (rpaths_of HPA.out (fun e he => ⟨e, List.mem_append_right _ (HV.out.mem2 e he), rfl, rfl⟩ : ∀ e ∈ (rst lh lw last t).left, _))
      generalize rst lh lw last t = st at *
      obtain ⟨sh, sl, so, sf⟩ := st
      simp only at *
      have hlens : sh.length ≤ 1024 ∧ so.length ≤ 100000 ∧ sf.length ≤ 100000 := by omega
      have HLENS := hd hlens
      have HSTP := hd (show rstep ⟨sh, sl, so, sf⟩ x = if sl < 18446744073709551615 ∧ (!(sh.any fun e => conflB x.1 e.1) && !(sf.any fun e => conflB x.1 e.1)) = true then ⟨sh ++ [rtok sl x], sl + 1, so ++ [rtok sl x], sf⟩ else ⟨sh, sl, so, sf ++ [x]⟩ from rfl)
      clear hlen hlen2 hlens
      go_upto_region 6 with fail
      obtain ⟨W3, kx, hkx, hW3, hu3, hb3⟩ := e1
      rw [hW3, hkx]
      have HU3 := hd (HU.out.trans hu3)
      have HBK3 := hd (HBK.out.upd hu3 (by simp))
      have HBR3 := hd (HBR.out.upd hu3 (by simp))
      have HHO3 := hd (own_upd (L := []) HHO.out hu3 (by simp))
      have HOO3 := hd (own_upd (L := []) HOO.out hu3 (by simp))
      have HLO3 := hd (own_upd (L := []) HLO.out hu3 (by simp))
      have HB3 := hd hb3
      have HW3 := hd (show wr.heap.size ≤ W3.heap.size from hu3.size)
      have hc3 := hb3.cell
      have hkc3 := HBK3.out.cell
      have hkl3 := HBK3.out.lt
      have HMAY := hd (fun W (hu : Upd [] W3 W) => rmay_any (B := B) (E := B) (C := B) (D := B) sl x W ⟨own_upd (L := []) HHO3.out hu (by simp), fun e he => own_upd (L := []) (HPH.out e he).1 (HU3.out.trans hu) (by simp)⟩ (HW.out.later (HU3.out.trans hu)) ⟨own_mono (own_upd (L := []) HLO3.out hu (by simp)) hB, fun e he => own_upd (L := []) (HPL.out e he).1 (HU3.out.trans hu) (by simp)⟩ (own_upd (L := []) HX.out.1 (HU3.out.trans hu) (by simp)) (fun e he => (HPH.out e he).2) (fun e he => (HPL.out e he).2) HX.out.2)
      rw [HRX.out] at HMAY
      have HGR := hd (fun (hlt : sl < 18446744073709551615) W (hu : Upd [] W3 W) => rgrant_any (B := B) (E := B) (C := B) sl x W ⟨own_upd (L := []) HHO3.out hu (by simp), fun e he => own_upd (L := []) (HPH.out e he).1 (HU3.out.trans hu) (by simp)⟩ (HW.out.later (HU3.out.trans hu)) (own_upd (L := []) HX.out.1 (HU3.out.trans hu) (by simp)) HLENS.out.1 hlow hlt)
      rw [HRX.out] at HGR
      have HTX := hd (show rval (rtok sl x) = .agg #[.int .i64 x.1.ses, .slice qa x.1.path.length qc, .bool x.1.excl, .int .u64 (sl + 1)] by unfold rval rtok; rw [HQV.out])
      have HTC := hd (show (rcel (rtok sl x)).toArray = #[.int .i64 x.1.ses, .slice qa x.1.path.length qc, .bool x.1.excl, .int .u64 (sl + 1)] by unfold rcel rtok; rw [HQV.out])
      have HXC := hd (show (rcel x).toArray = #[.int .i64 x.1.ses, .slice qa x.1.path.length qc, .bool x.1.excl, .int .u64 x.1.tok] by unfold rcel; rw [HQV.out])
      rw [HTX.out] at HGR
      clear hkx hW3 hu3 hb3 d0 d1 d2 d3 hkc hkl
      generalize x.1.path.length = pn at *
      go_cut [27] (fun s27 wx => s27 = .bool (decide (sl < 18446744073709551615) && (!(sh.any fun e => conflB x.1 e.1) && !(sf.any fun e => conflB x.1 e.1))) ∧ Upd [] W3 wx)
      case first =>
        generalize (!(sh.any fun e => conflB x.1 e.1) && !(sf.any fun e => conflB x.1 e.1)) = q at *
        by_cases hlast : sl < 18446744073709551615
        · go_wp2_with fail
          refine (HMAY.out _ (Upd.refl _ _)).mono ?_
          rintro e w4 ⟨rfl, hu4⟩
          go_wp2_with fail
          go_meet
          case rel => exact ⟨by simp [hlast], hu4⟩
        · have HLS := hd hlast
          go_wp2_with fail
          go_meet
          case rel => exact ⟨by rw [decide_eq_false (by have := HLS.out; omega)]; rfl, Upd.refl _ _⟩
      case rest =>
        obtain ⟨rfl, huc⟩ := hcut
        have HU4 := hd (HU3.out.trans huc)
        have HUC := hd huc
        have hb4 := HB3.out.upd huc (by simp)
        have hc4 := hb4.cell
        have hk4 := (HBK3.out.upd huc (by simp)).cell
        have hkl4 := (HBK3.out.upd huc (by simp)).lt
        have HW4 := hd (show W3.heap.size ≤ wc.heap.size from huc.size)
        clear hc3 hkc3 hkl3 huc hb4
        by_cases hq : sl < 18446744073709551615 ∧ (!(sh.any fun e => conflB x.1 e.1) && !(sf.any fun e => conflB x.1 e.1)) = true
        · have hq1 : decide (sl < 18446744073709551615) = true := by simpa using hq.1
          have HS2 := hd (HST.out.trans (HSTP.out.trans (if_pos hq)))
          have HG := hd (HGR.out hq.1 wc HUC.out)
          rw [hq1, hq.2]
          clear hq hq1 HMAY HSTP HST HGR
          go_wp2_with fail
          refine HG.out.mono ?_
          rintro e w5 ⟨vh5, rfl, ho5, hu5⟩
          have HU5 := hd (HU4.out.trans hu5)
          have HUC5 := hd (HUC.out.trans hu5)
          have HGE5 := hd (own_ge ho5)
          have HO5 := hd ho5
          obtain ⟨a5, c5, rfl, -⟩ := own_open ho5
          have HS5 := hd (show wc.heap.size ≤ w5.heap.size from hu5.size)
          have hln : (sh ++ [rtok sl x]).length = sh.length + 1 := by simp
          have e2 := two_lk2 w5 #[.slice a5 (sh.length + 1) c5, .slice (some ⟨g, 0, none⟩) lw.length c2, .int .u64 (sl + 1)] #[.int .i64 x.1.ses, .slice qa pn qc, .bool x.1.excl, .int .u64 (sl + 1)] 29 67
          clear hu5 ho5 hc4 hk4 hkl4
          rw [hln] at HO5 HGE5 ⊢
          go_upto_region 8 with fail
          obtain ⟨W6, k8, k9, hk8, hk9, hW6, hu6, hb8, hb9⟩ := e2
          rw [hW6, hk8, hk9]
          have HU6 := hd (HU5.out.trans hu6)
          have HUC6 := hd (HUC5.out.trans hu6)
          have hbk6 := HBK3.out.upd HUC6.out (by simp)
          have h6c := hbk6.cell
          have h6z := hbk6.frozen
          have h6l := hbk6.lt
          have h8c := hb8.cell
          have h9c := hb9.cell
          have n8 : ¬ (k8 = kb) := by have := hbk6.lt; have := HBK3.out.lt; have := HS5.out; have := HW4.out; omega
          have n9 : ¬ (k9 = kb) := by have := HBK3.out.lt; have := HS5.out; have := HW4.out; omega
          have n8' : ¬ (kb = k8) := fun e => n8 e.symm
          have n9' : ¬ (kb = k9) := fun e => n9 e.symm
          have e9 : ∃ W7, ((W6.setCell ⟨kb, 0, none⟩ (.slice a5 (sh.length + 1) c5)).setCell ⟨kb, 1, none⟩ (.slice (some ⟨g, 0, none⟩) lw.length c2)).setCell ⟨kb, 2, none⟩ (.int .u64 (sl + 1)) = W7 ∧ Upd [] w W7 ∧ Upd [kb] W6 W7 ∧ Blk W7 kb #[.slice a5 (sh.length + 1) c5, .slice (some ⟨g, 0, none⟩) lw.length c2, .int .u64 (sl + 1)] 29 ∧ Blk W7 k9 #[.int .i64 x.1.ses, .slice qa pn qc, .bool x.1.excl, .int .u64 (sl + 1)] 67 :=
            ⟨_, rfl, ((HU6.out.setCell (p := ⟨kb, 0, none⟩) (.inr HKK.out.1) _).setCell (p := ⟨kb, 1, none⟩) (.inr HKK.out.1) _).setCell (p := ⟨kb, 2, none⟩) (.inr HKK.out.1) _, (((Upd.refl [kb] W6).setCell (p := ⟨kb, 0, none⟩) (.inl (by simp)) _).setCell (p := ⟨kb, 1, none⟩) (.inl (by simp)) _).setCell (p := ⟨kb, 2, none⟩) (.inl (by simp)) _, putB hbk6 _ _ _, Blk.off (Blk.off (Blk.off hb9 n9) n9) n9⟩
          have HS6 := hd (show w5.heap.size ≤ W6.heap.size from hu6.size)
          have HUW6 := hd hu6
          clear hW6 hk8 hk9 hu6 hb8 hb9 hbk6
          go_upto_region 9 with fail
          obtain ⟨W7, hW7, hu7, hu67, hb7, hb97⟩ := e9
          rw [hW7]
          have HU7 := hd hu7
          have HB7 := hd hb7
          have h97c := hb97.cell
          have hsz7 : w.heap.size ≤ W7.heap.size := hu7.size
          have HS7 := hd (show W6.heap.size ≤ W7.heap.size from hu67.size)
          have hkb2 : ∀ {T sz n : Nat} {v : Value} {xs : List Value} {C : Nat}, W6.ownsRow C T sz v n xs → T = 67 → ∀ g, v.ownBlock = some g → g ∉ [kb] := fun h hT g hg hm => by
            simp only [List.mem_cons, List.not_mem_nil, or_false] at hm
            exact own_ne_any h (HBK3.out.upd HUC6.out (by simp)) (by rw [hT]; decide) g hg hm
          have HOO7 := hd (own_upd (own_upd (L := []) HOO3.out HUC6.out (by simp)) hu67 (hkb2 (own_upd (L := []) HOO3.out HUC6.out (by simp)) rfl))
          have HLO7 := hd (own_upd (own_upd (L := []) HLO3.out HUC6.out (by simp)) hu67 (hkb2 (own_upd (L := []) HLO3.out HUC6.out (by simp)) rfl))
          have HO7 := hd (own_upd (own_upd (L := []) HO5.out HUW6.out (by simp)) hu67 (hkb2 (own_upd (L := []) HO5.out HUW6.out (by simp)) rfl))
          have HBR7 := hd ((HBR3.out.upd HUC6.out (by simp)).upd hu67 (by simpa using nrb))
          have HGO := hd (own_ge HOO3.out)
          have HGL := hd (own_ge HLO3.out)
          clear hW7 hu7 hu67 hb7 hb97 h6c h6z h6l h8c h9c
          go_wp2_with (at_builtin; refine rkAppend rfl _ _ rfl w.heap.size B _ _ so [rtok sl x] rfl (own_upd (L := []) HOO7.out ((Upd.refl _ _).alloc _) (by simp)) rfl (rone_row (e := rtok sl x) (by rw [HTC.out]; exact Blk.new' _ _ _ rfl) (by omega) (own_upd (L := []) HX.out.1 (HU7.out.alloc _) (by simp))) HLENS.out.2.1 (by simp) (by simp; omega) ?_)
          intro v8 w8 hown8 hu8 hat8
          have HO8 := hd hown8
          have hu78 : Upd (Value.slice ao so.length co).ownBlock.toList W7 w8 := (((Upd.refl [] W7).alloc _).mono (by simp)).trans hu8
          have HU8 := hd (HU7.out.trans' hu78 (fun i hi => .inr (HGO.out i (by simpa using hi)).1))
          have HBK8 := hd (HB7.out.upd hu78 (fun hm => own_ne_any HOO7.out HB7.out (by decide) kb (by simpa using hm) rfl))
          have HBR8 := hd (HBR7.out.upd hu78 (fun hm => own_ne_any HOO7.out HBR7.out (by decide) kr (by simpa using hm) rfl))
          have HHO8 := hd (own_upd HO7.out hu78 (fun g hg hm => by
            have h1 := (HGE5.out g hg).1
            have h2 := (HGO.out g (by simpa using hm)).2
            have := HW4.out
            omega))
          have HLO8 := hd (own_upd HLO7.out hu78 (fun g hg hm => HF3.out g (by simpa using hm) hg))
          have HOF := hd (show Off v8 (.slice a5 (sh.length + 1) c5) ∧ Off (.slice al sf.length cl) (.slice a5 (sh.length + 1) c5) ∧ Off v8 (.slice al sf.length cl) from ⟨fun g hg hg' => by
            have h1 := HGE5.out g hg'
            rcases hat8 with e | e
            · rw [e] at hg
              have h2 := (HGO.out g hg).2
              have := HW4.out
              omega
            · rw [e] at hg
              have := HS6.out
              have := HS7.out
              simp at hg
              omega, fun g hg hg' => by
            have h1 := (HGE5.out g hg').1
            have h2 := (HGL.out g hg).2
            have := HW4.out
            omega, fun g hg hg' => by
            rcases hat8 with e | e
            · rw [e] at hg; exact HF3.out g hg hg'
            · rw [e] at hg
              have h2 := (HGL.out g hg').2
              have := HW4.out
              have := HS5.out
              have := HS6.out
              have := HS7.out
              simp at hg
              omega⟩)
          obtain ⟨a8, c8, rfl, -⟩ := own_open hown8
          clear hown8 hu8 hat8 hu78
          go_wp2_with fail
          go_roundw
          case rel =>
            refine ⟨t + 1, .slice a5 (sh.length + 1) c5, by go_num, by omega, ?_⟩
            rw [HS2.out]
            refine ⟨HBK8.out, HBR8.out, ?_, by simpa using HO8.out, HLO8.out, HU8.out, by simpa using HOF.out.1, HOF.out.2.1, by simpa using HOF.out.2.2⟩
            have h := own_mono HHO8.out (B' := B) (by have := HU4.out.size; omega)
            simpa using h
          case measure => simp [intOf]; omega
        · have hq1 : (decide (sl < 18446744073709551615) && (!(sh.any fun e => conflB x.1 e.1) && !(sf.any fun e => conflB x.1 e.1))) = false := by
            rw [Bool.eq_false_iff]
            intro e
            rw [Bool.and_eq_true, decide_eq_true_eq] at e
            exact hq e
          have HS2 := hd (HST.out.trans (HSTP.out.trans (if_neg hq)))
          have HGO := hd (own_ge HOO3.out)
          have HGL := hd (own_ge HLO3.out)
          have HGH := hd (own_ge HHO3.out)
          have hsz4 : w.heap.size ≤ wc.heap.size := HU4.out.size
          have HLO4 := hd (own_upd (L := []) HLO3.out HUC.out (by simp))
          rw [hq1]
          clear hq hq1 HMAY HSTP HST HGR
          go_wp2_with (at_builtin; refine rkAppend rfl _ _ rfl w.heap.size B _ _ sf [x] rfl (own_upd (L := []) HLO4.out ((Upd.refl _ _).alloc _) (by simp)) rfl (rone_row (e := x) (by rw [HXC.out]; exact Blk.new' _ _ _ rfl) (by omega) (own_upd (L := []) HX.out.1 (HU4.out.alloc _) (by simp))) HLENS.out.2.2 (by simp) (by simp; omega) ?_)
          intro v8 w8 hown8 hu8 hat8
          have HO8 := hd hown8
          have hu78 : Upd (Value.slice al sf.length cl).ownBlock.toList wc w8 := (((Upd.refl [] wc).alloc _).mono (by simp)).trans hu8
          have HU8 := hd (HU4.out.trans' hu78 (fun i hi => .inr (HGL.out i (by simpa using hi)).1))
          have HBK8 := hd ((HBK3.out.upd HUC.out (by simp)).upd hu78 (fun hm => own_ne_any HLO4.out (HBK3.out.upd HUC.out (by simp)) (by decide) kb (by simpa using hm) rfl))
          have HBR8 := hd ((HBR3.out.upd HUC.out (by simp)).upd hu78 (fun hm => own_ne_any HLO4.out (HBR3.out.upd HUC.out (by simp)) (by decide) kr (by simpa using hm) rfl))
          have HHO8 := hd (own_upd (own_upd (L := []) HHO3.out HUC.out (by simp)) hu78 (fun g hg hm => HF2.out g (by simpa using hm) hg))
          have HOO8 := hd (own_upd (own_upd (L := []) HOO3.out HUC.out (by simp)) hu78 (fun g hg hm => HF3.out g hg (by simpa using hm)))
          have HOF := hd (show Off v8 (.slice ah sh.length ch) ∧ Off (.slice ao so.length co) v8 from ⟨fun g hg hg' => by
            rcases hat8 with e | e
            · rw [e] at hg; exact HF2.out g hg hg'
            · rw [e] at hg
              have h2 := (HGH.out g hg').2
              have := HW4.out
              simp at hg
              omega, fun g hg hg' => by
            rcases hat8 with e | e
            · rw [e] at hg'; exact HF3.out g hg hg'
            · rw [e] at hg'
              have h2 := (HGO.out g hg).2
              have := HW4.out
              simp at hg'
              omega⟩)
          obtain ⟨a8, c8, rfl, -⟩ := own_open hown8
          clear hown8 hu8 hat8 hu78
          go_wp2_with fail
          go_roundw
          case rel =>
            refine ⟨t + 1, .slice ah sh.length ch, by go_num, by omega, ?_⟩
            rw [HS2.out]
            exact ⟨HBK8.out, HBR8.out, HHO8.out, HOO8.out, by simpa using HO8.out, HU8.out, HF1.out, by simpa using HOF.out.1, by simpa using HOF.out.2⟩
          case measure => simp [intOf]; omega
    · obtain rfl : t = lw.length := by omega
      have HPO := hd (rpaths_of HPA.out HV.out.mem3)
      have HPH := hd (rpaths_of HPA.out HV.out.mem1)
      have HPL := hd (rpaths_of HPA.out (fun e he => ⟨e, List.mem_append_right _ (HV.out.mem2 e he), rfl, rfl⟩ : ∀ e ∈ (rst lh lw last lw.length).left, _))
      generalize hst : rst lh lw last lw.length = st at *
      obtain ⟨sh, sl, so, sf⟩ := st
      have HSTE := hd hst
      clear hst
      simp only at *
      have hkz := hbk.frozen
      have hrc := hbr.cell
      have hrz := hbr.frozen
      have hrl := hbr.lt
      clear hbk hbr
      go_wp2_with fail
      have hne : ∀ {n : Nat} {v : Value} {xs : List Value} {C : Nat}, wr.ownsRow C 67 4 v n xs → ∀ g, v.ownBlock = some g → g ∉ [kb, kr] := fun h g hg hm => by
        simp only [List.mem_cons, List.not_mem_nil, or_false] at hm
        rcases hm with hm | hm
        · exact own_ne_any h HBK.out (by decide) g hg hm
        · exact own_ne_any h HBR.out (by decide) g hg hm
      have hkk := HKK.out
      refine bodyPost_ret (res_rp _ 2 3 rfl _ _ kr (.slice ah sh.length ch) (.slice al sf.length cl) sl (.slice ao so.length co) rfl rfl ?bkk ⟨_, _, _, rfl⟩ ⟨_, _, _, rfl⟩) rfl ?fin
      case bkk =>
        with_reducible refine putB (c0 := .slice none 0 0) (c1 := .slice none 0 0) (c2 := .int .u64 0) ?_ _ _ _
        repeat (first | with_reducible refine Blk.drew ?_ | with_reducible refine Blk.off ?_ nrb)
        exact HBR.out
      case fin =>
        rw [HSTE.out]
        refine ⟨.slice ah sh.length ch, .slice al sf.length cl, .slice ao so.length co, rfl, ⟨?_, fun e he => ?_⟩, ⟨?_, fun e he => ?_⟩, ⟨?_, fun e he => ?_⟩, ?_⟩
        · exact own_upd (L := [kb, kr]) HHO.out (by repeat (first | with_reducible exact Upd.refl _ _ | with_reducible refine Upd.drew ?_ | with_reducible refine Upd.setCell ?_ (.inl (by simp)) _)) (hne HHO.out)
        · exact own_upd (L := []) (HPH.out e he).1 (by repeat (first | with_reducible exact HU.out | with_reducible refine Upd.drew ?_ | with_reducible refine Upd.setCell ?_ (.inr (by simp only; omega)) _)) (by simp)
        · exact own_mono (own_upd (L := [kb, kr]) HLO.out (by repeat (first | with_reducible exact Upd.refl _ _ | with_reducible refine Upd.drew ?_ | with_reducible refine Upd.setCell ?_ (.inl (by simp)) _)) (hne HLO.out)) hB
        · exact own_upd (L := []) (HPL.out e he).1 (by repeat (first | with_reducible exact HU.out | with_reducible refine Upd.drew ?_ | with_reducible refine Upd.setCell ?_ (.inr (by simp only; omega)) _)) (by simp)
        · exact own_mono (own_upd (L := [kb, kr]) HOO.out (by repeat (first | with_reducible exact Upd.refl _ _ | with_reducible refine Upd.drew ?_ | with_reducible refine Upd.setCell ?_ (.inl (by simp)) _)) (hne HOO.out)) hB
        · exact own_upd (L := []) (HPO.out e he).1 (by repeat (first | with_reducible exact HU.out | with_reducible refine Upd.drew ?_ | with_reducible refine Upd.setCell ?_ (.inr (by simp only; omega)) _)) (by simp)
        · repeat (first | with_reducible exact HU.out | with_reducible refine Upd.drew ?_ | with_reducible refine Upd.setCell ?_ (.inr (by simp only; omega)) _)
end Go.Proofs.YtpniggmdokkkcaaGreatDoor

/-
  Drop, Release of the document's book, walked. Conditions: good paths; few locks.
-/
set_option linter.unusedVariables false
set_option linter.unusedSimpArgs false
set_option maxRecDepth 100000
namespace Go.Proofs.YtpniggmdokkkcaaGreatDoor
open Go.RowKit

def rkeep (key : LkS) (all : Bool) (l : List RLk) : List RLk := l.filter fun e => keepR key all e.1
theorem rkeep_sub {key : LkS} {all : Bool} {l : List RLk} : ∀ e ∈ rkeep key all l, e ∈ l := fun e he => (List.mem_filter.1 he).1
theorem rkeep_len (key : LkS) (all : Bool) (l : List RLk) : (rkeep key all l).length ≤ l.length := List.length_filter_le _ _
theorem six_nil : Six [] := six_good (by simp) (by simp)
theorem txs_nil (w : World) : TxsAt w (.slice none 0 0) [] := ⟨none, 0, rfl, by simp, by omega, fun h => absurd h (by simp)⟩
theorem six_keep {key : LkS} {all : Bool} {l : List RLk} (h : ∀ e ∈ l, Six e.1.path) : ∀ e ∈ rkeep key all l, Six e.1.path := fun e he => h e (rkeep_sub e he)
theorem RRow.far {B : Nat} {w w' : World} {v : Value} {l : List RLk} {k : Nat} {c : Array Value} {T : TypeId} (h : RRow B w v l) (hb : Blk w k c T) (h1 : 67 ≠ T) (h2 : 9 ≠ T) (hu : Upd [k] w w') : RRow B w' v l :=
  h.kept hu (fun i hi => by simp only [List.mem_cons, List.not_mem_nil, or_false] at hi; subst hi; exact ⟨c, T, hb, h1, h2⟩)

set_option maxHeartbeats 8000000 in
theorem rdrop_any {B : Nat} {vh vw : Value} {lh lw : List RLk} (last s : Int) (w : World) (hh : RRow B w vh lh) (hw : RRow B w vw lw) (h61 : ∀ e ∈ lh, Six e.1.path) (h62 : ∀ e ∈ lw, Six e.1.path) (hl : lh.length + lw.length ≤ 900) (h0 : 0 ≤ last) (hB : B ≤ w.heap.size) :
    Calls Tryz.prog 28 #[.agg #[vh, vw, .int .u64 last], .int .i64 s] w fun r w' =>
      ∃ vh' vw' vo R, R = rst (rkeep ⟨s, [], false, 0⟩ true lh) (rkeep ⟨s, [], false, 0⟩ true lw) last (rkeep ⟨s, [], false, 0⟩ true lw).length ∧ r = .returned (.tuple #[.agg #[vh', vw', .int .u64 R.last], vo]) ∧ RRow B w' vh' R.held ∧ RRow B w' vw' R.left ∧ RRow B w' vo R.out ∧ Upd [] w w' := by
  have HW1 := hd (fun W (hu : Upd [] w W) => rwithout_any (B := B) s true [] W (hh.later hu) (txs_nil W) h61 six_nil (by omega) (by have := hu.size; omega))
  have HW2 := hd (fun W (hu : Upd [] w W) => rwithout_any (B := B) s true [] W (hw.later hu) (txs_nil W) h62 six_nil (by omega) (by have := hu.size; omega))
  have HPM := hd (fun W v1 v2 (g1 : RRow B W v1 (rkeep ⟨s, [], false, 0⟩ true lh)) (g2 : RRow B W v2 (rkeep ⟨s, [], false, 0⟩ true lw)) (hB2 : B ≤ W.heap.size) => rpump_any last W g1 g2 (six_keep h61) (six_keep h62) (by have := rkeep_len ⟨s, [], false, 0⟩ true lh; have := rkeep_len ⟨s, [], false, 0⟩ true lw; omega) h0 hB2)
  obtain ⟨R, hR⟩ : ∃ R, R = rst (rkeep ⟨s, [], false, 0⟩ true lh) (rkeep ⟨s, [], false, 0⟩ true lw) last (rkeep ⟨s, [], false, 0⟩ true lw).length := ⟨_, rfl⟩
  rw [← hR] at HPM
  have HR := hd hR
  have HH := hd hh
  have HWW := hd hw
  obtain ⟨a1, c1, rfl, -⟩ := own_open hh.own
  obtain ⟨a2, c2, rfl, -⟩ := own_open hw.own
  have e0 := two_lk2 w #[.slice a1 lh.length c1, .slice a2 lw.length c2, .int .u64 last] #[.slice none 0 0, .slice none 0 0, .int .u64 0] 29 29
  clear hh hw h61 h62 hR
  change Hd (∀ W, Upd [] w W → Calls _ _ _ W fun r w' => ∃ v', r = .returned v' ∧ RRow B w' v' (rkeep ⟨s, [], false, 0⟩ true lh) ∧ Upd [] W w') at HW1
  change Hd (∀ W, Upd [] w W → Calls _ _ _ W fun r w' => ∃ v', r = .returned v' ∧ RRow B w' v' (rkeep ⟨s, [], false, 0⟩ true lw) ∧ Upd [] W w') at HW2
  generalize rkeep ⟨s, [], false, 0⟩ true lh = l1 at *
  generalize rkeep ⟨s, [], false, 0⟩ true lw = l2 at *
  go_enter Tryz.func28, Tryz.ntmps28
  go_upto_region 1 with fail
  obtain ⟨W, kb, kr, hkb, hkr, hW, hu, hb, hbr⟩ := e0
  rw [hW, hkb, hkr]
  have HKK := hd (show w.heap.size ≤ kb ∧ w.heap.size ≤ kr from ⟨by omega, by omega⟩)
  have nbr : ¬ (kb = kr) := by omega
  have nrb : ¬ (kr = kb) := by omega
  have HU := hd hu
  have HB := hd hb
  have HBR := hd hbr
  have hc := hb.cell
  have hlt := hb.lt
  clear hW hkb hkr hu hb hbr
  go_wp2_with fail
  refine (HW1.out _ HU.out).mono ?_
  rintro r w1 ⟨v1, rfl, hr1, hu1⟩
  have HU1 := hd (HU.out.trans hu1)
  have hb1 := HB.out.upd hu1 (by simp)
  have HBR1 := hd (HBR.out.upd hu1 (by simp))
  have h1c := hb1.cell
  have h1z := hb1.frozen
  have h1l := hb1.lt
  obtain ⟨b1, d1, rfl, -⟩ := own_open hr1.own
  have e1 : ∃ W2, w1.setCell ⟨kb, 0, none⟩ (.slice b1 l1.length d1) = W2 ∧ Upd [] w W2 ∧ Blk W2 kb #[.slice b1 l1.length d1, .slice a2 lw.length c2, .int .u64 last] 29 ∧ Blk W2 kr #[.slice none 0 0, .slice none 0 0, .int .u64 0] 29 ∧ RRow B W2 (.slice b1 l1.length d1) l1 :=
    ⟨_, rfl, HU1.out.setCell (p := ⟨kb, 0, none⟩) (.inr HKK.out.1) _, hb1.set 0 _, Blk.off HBR1.out nrb, hr1.far hb1 (by decide) (by decide) ((Upd.refl _ _).setCell (p := ⟨kb, 0, none⟩) (by simp) _)⟩
  clear hu1 hb1 hr1 hc hlt
  go_upto_region 2 with fail
  obtain ⟨W2, hW2, hu2, hb2, hbr2, hr2⟩ := e1
  rw [hW2]
  have HU2 := hd hu2
  have HB2 := hd hb2
  have HBR2 := hd hbr2
  have HR2 := hd hr2
  have h2c := hb2.cell
  have h2l := hb2.lt
  clear hW2 hu2 hb2 hbr2 hr2 h1c h1z h1l
  go_wp2_with fail
  refine (HW2.out _ HU2.out).mono ?_
  rintro r w3 ⟨v3, rfl, hr3, hu3⟩
  have HU3 := hd (HU2.out.trans hu3)
  have hb3 := HB2.out.upd hu3 (by simp)
  have HBR3 := hd (HBR2.out.upd hu3 (by simp))
  have HR23 := hd (HR2.out.later hu3)
  have h3c := hb3.cell
  have h3z := hb3.frozen
  have h3l := hb3.lt
  obtain ⟨b3, d3, rfl, -⟩ := own_open hr3.own
  have e3 : ∃ W4, w3.setCell ⟨kb, 1, none⟩ (.slice b3 l2.length d3) = W4 ∧ Upd [] w W4 ∧ Blk W4 kb #[.slice b1 l1.length d1, .slice b3 l2.length d3, .int .u64 last] 29 ∧ Blk W4 kr #[.slice none 0 0, .slice none 0 0, .int .u64 0] 29 ∧ RRow B W4 (.slice b1 l1.length d1) l1 ∧ RRow B W4 (.slice b3 l2.length d3) l2 :=
    ⟨_, rfl, HU3.out.setCell (p := ⟨kb, 1, none⟩) (.inr HKK.out.1) _, hb3.set 1 _, Blk.off HBR3.out nrb, HR23.out.far hb3 (by decide) (by decide) ((Upd.refl _ _).setCell (p := ⟨kb, 1, none⟩) (by simp) _), hr3.far hb3 (by decide) (by decide) ((Upd.refl _ _).setCell (p := ⟨kb, 1, none⟩) (by simp) _)⟩
  clear hu3 hb3 hr3 h2c h2l
  go_upto_region 3 with fail
  obtain ⟨W4, hW4, hu4, hb4, hbr4, hr4, hr4'⟩ := e3
  rw [hW4]
  have HU4 := hd hu4
  have HBR4 := hd hbr4
  have h4c := hb4.cell
  have HP4 := hd (HPM.out W4 _ _ hr4 hr4' (by have := hu4.size; omega))
  clear hW4 hu4 hb4 hbr4 hr4 hr4' h3c h3z h3l
  go_wp2_with fail
  refine HP4.out.mono ?_
  rintro r w5 ⟨vh5, vw5, vo5, rfl, g1, g2, g3, hu5⟩
  have G1 := hd g1
  have G2 := hd g2
  have G3 := hd g3
  have HU5 := hd (HU4.out.trans hu5)
  have HBR5 := hd (HBR4.out.upd hu5 (by simp))
  have h5c := HBR5.out.cell
  have h5z := HBR5.out.frozen
  have h5l := HBR5.out.lt
  obtain ⟨x1, y1, rfl, -⟩ := own_open g1.own
  obtain ⟨x2, y2, rfl, -⟩ := own_open g2.own
  obtain ⟨x3, y3, rfl, -⟩ := own_open g3.own
  clear g1 g2 g3 hu5 h4c
  go_wp2_with fail
  have hkk := HKK.out
  refine bodyPost_ret (res_rp _ 4 5 rfl _ _ kr (.slice x1 R.held.length y1) (.slice x2 R.left.length y2) R.last (.slice x3 R.out.length y3) rfl rfl ?bkk ⟨_, _, _, rfl⟩ ⟨_, _, _, rfl⟩) rfl ?fin
  case bkk =>
    with_reducible refine putB (c0 := .slice none 0 0) (c1 := .slice none 0 0) (c2 := .int .u64 0) ?_ _ _ _
    exact HBR5.out
  case fin =>
    have hup : ∀ W', Upd [kr] w5 W' → RRow B W' (.slice x1 R.held.length y1) R.held ∧ RRow B W' (.slice x2 R.left.length y2) R.left ∧ RRow B W' (.slice x3 R.out.length y3) R.out := fun W' h =>
      ⟨G1.out.far HBR5.out (by decide) (by decide) h, G2.out.far HBR5.out (by decide) (by decide) h, G3.out.far HBR5.out (by decide) (by decide) h⟩
    obtain ⟨q1, q2, q3⟩ := hup _ ((((Upd.refl [kr] w5).setCell (p := ⟨kr, 0, none⟩) (.inl (by simp)) (.slice x1 R.held.length y1)).setCell (p := ⟨kr, 1, none⟩) (.inl (by simp)) (.slice x2 R.left.length y2)).setCell (p := ⟨kr, 2, none⟩) (.inl (by simp)) (.int .u64 R.last))
    exact ⟨_, _, _, R, HR.out, rfl, q1, q2, q3, ((HU5.out.setCell (p := ⟨kr, 0, none⟩) (.inr hkk.2) _).setCell (p := ⟨kr, 1, none⟩) (.inr hkk.2) _).setCell (p := ⟨kr, 2, none⟩) (.inr hkk.2) _⟩
end Go.Proofs.YtpniggmdokkkcaaGreatDoor
