/-
  locks: pump, walked. Conditions: the book keeps what a book keeps; the library's variables hold what they are laid to hold.
-/
import Derived.Test.YtpniggmdokkkcaaGreatDoorMb9
set_option linter.unusedVariables false
set_option linter.unusedSimpArgs false
set_option maxRecDepth 100000
namespace Go.Proofs.YtpniggmdokkkcaaGreatDoor
open Go.RowKit

/-- The blocks of a row and a slice that do not meet. -/
def Off (u v : Value) : Prop := ∀ g, u.ownBlock = some g → v.ownBlock ≠ some g

set_option maxHeartbeats 8000000 in
theorem pump_any {B k : Nat} {vh vw : Value} {d : BkS} (w : World) (h : BookAt B w k vh vw d) (hf : WfB d) (hD : Door w) (hE : 1 ≠ k ∧ vh.ownBlock ≠ some 1) (hM : 0 ≠ k ∧ vh.ownBlock ≠ some 0) (hB : B ≤ w.heap.size) :
    Calls Tryz.prog 41 #[.pointer (some ⟨k, 0, none⟩)] w fun e w' =>
      ∃ vh' vw' vo, e = .returned vo ∧ BookAt B w' k vh' vw' (pumpP insK d).1 ∧ LkRow w.heap.size w' vo (pumpP insK d).2 ∧ Upd (k :: vh.ownBlock.toList) w w' ∧ (∀ g ∈ foot k vh' vw', g ∈ foot k vh vw ∨ w.heap.size ≤ g) := by
  have hb := h.blk
  simp only [BkS.cells] at hb
  have HH := hd h
  have hwl := (own_ge h.waits)
  obtain ⟨a2, n2, rfl, -⟩ := own_open h.waits
  have hc := hb.cell
  have hlt := hb.lt
  have HWF := hd hf
  have HDD := hd hD
  have HLK := hd (row_lks h.waits)
  have HPS := hd (pst_succ insK d)
  have HINV := hd (pst_inv hf)
  have HL := hd h.lt
  have hlw : d.waits.length ≤ 900 := by have := hf.few; omega
  have HKL := hd hlt
  have HWL := hd hwl
  have HNE := hd h.ne
  clear h hb hwl hf hD
  go_enter Tryz.func41, Tryz.ntmps41
  go_wp2_with fail
  go_loopw [3, 4, 12] (fun s3 s4 s12 wr => ∃ t vh', s12 = .int .i64 (t : Nat) ∧ t ≤ d.waits.length ∧ BookAt B wr k vh' (.slice a2 d.waits.length n2) (pst insK d t).1 ∧ LkRow w.heap.size wr s3 (pst insK d t).2.1 ∧ LkRow w.heap.size wr s4 (pst insK d t).2.2 ∧
    Upd (k :: vh.ownBlock.toList) w wr ∧ (∀ g, vh'.ownBlock = some g → vh.ownBlock = some g ∨ w.heap.size ≤ g) ∧ Off s3 vh' ∧ Off s4 vh' ∧ Off s3 s4) (fun _ _ s12 _ => d.waits.length - (intOf s12).toNat)
  case atStart => exact ⟨0, vh, rfl, by omega, HH.out, World.ownsRow_nil _ _ _ _, World.ownsRow_nil _ _ _ _, Upd.refl _ _, fun g hg => .inl hg, by intro g hg; simp [Value.ownBlock] at hg, by intro g hg; simp [Value.ownBlock] at hg, by intro g hg; simp [Value.ownBlock] at hg⟩
  case round =>
    obtain ⟨t, vh', rfl, ht, hbk, ho, hlf, hu, hvh, hoff1, hoff2, hoff3⟩ := hrel
    have HI := hd (HINV.out t ht)
    have HU := hd hu
    have HVH := hd hvh
    have HO := hd ho
    have HLF := hd hlf
    have HBK := hd hbk
    have HF1 := hd hoff1
    have HF2 := hd hoff2
    have HF3 := hd hoff3
    obtain ⟨ao, co, rfl, -⟩ := own_open ho
    obtain ⟨al, cl, rfl, -⟩ := own_open hlf
    have hsz := hu.size
    have HWN := hd (show ∀ g, (Value.slice a2 d.waits.length n2).ownBlock = some g → g ∉ (k :: vh.ownBlock.toList) from fun g hg hm => by
      rcases List.mem_cons.1 hm with rfl | hm
      · exact HNE.out.2 hg
      · exact HH.out.apart g (by simpa using hm) hg)
    clear hu hvh ho hlf hoff1 hoff2 hoff3
    have hbb := hbk.blk
    simp only [BkS.cells] at hbb
    have hcb := hbb.cell
    have hltb := hbb.lt
    clear hbk
    by_cases htn : t < d.waits.length
    · have htn' : (t : Int) < (d.waits.length : Int) := by omega
      have HS := hd (HPS.out t htn)
      have hlkw := HLK.out.upd HU.out HWN.out
      obtain ⟨g, rfl, hgl, c0, c1, c2, c3⟩ := lks_get hlkw (Upd.refl _ _) t htn
      have hx6 := hd (HWF.out.six2 d.waits[t] (List.getElem_mem _))
      have e0 := one_lk wr #[.int .i64 d.waits[t].ses, .string (txt (textL d.waits[t].path)), .bool d.waits[t].excl, .int .u64 d.waits[t].tok] 42
      generalize d.waits[t] = x at *
      have hfew := HWF.out.few
      have hlen := HI.out.len
      have hlen2 := HI.out.len2
      have hlow := HI.out.low
      have hhigh := HI.out.high
      generalize pst insK d t = st at *
      obtain ⟨b, out, left⟩ := st
      simp only at *
      have HXV := hd (show x.val = .agg #[.int .i64 x.ses, .string (txt (textL x.path)), .bool x.excl, .int .u64 x.tok] from rfl)
      have HTV := hd (show (tokd b x).val = .agg #[.int .i64 x.ses, .string (txt (textL x.path)), .bool x.excl, .int .u64 (b.last + 1)] from rfl)
      have hlen3 : b.held.length ≤ 1000 ∧ out.length ≤ 100000 ∧ left.length ≤ 100000 := by omega
      have HLEN := hd hlen3
      have HPS2 := hd (show pstep insK (b, out, left) x = if b.last < 18446744073709551615 ∧ (!(b.held.any (conflB x)) && !(left.any (conflB x))) = true then ({ b with held := insK b.held (tokd b x), last := b.last + 1 }, out ++ [tokd b x], left) else (b, out, left ++ [x]) from rfl)
      clear hfew hlen hlen2 hlen3 HLK hlkw
      go_upto_region 5 with fail
      obtain ⟨W3, kx, hkx, hW3, hu3, hb3⟩ := e0
      rw [hW3, hkx]
      have HU3 := hd (HU.out.trans (hu3.mono (M := k :: vh.ownBlock.toList) (by simp)))
      have HBK3 := hd (HBK.out.later hu3)
      have HO3 := hd (own_upd (L := []) HO.out hu3 (by simp))
      have HLF3 := hd (own_upd (L := []) HLF.out hu3 (by simp))
      have HB3 := hd hb3
      have hc3 := hb3.cell
      have hcb3 := HBK3.out.blk.cell
      have hltb3 := HBK3.out.blk.lt
      simp only [BkS.cells] at hcb3
      have HMAY := hd (fun W (hu : Upd [] W3 W) => may_any x left (.slice al left.length cl) W (HBK3.out.later hu) ((row_lks HLF3.out).later hu))
      rw [HXV.out] at HMAY
      have HKX := hd (show wr.heap.size ≤ kx ∧ kx < W3.heap.size from ⟨by omega, hb3.lt⟩)
      have HW3 := hd (show wr.heap.size ≤ W3.heap.size from hu3.size)
      clear hkx hW3 hu3 hb3 c0 c1 c2 c3 hcb hltb hbb
      go_cut [26] (fun s26 wx => s26 = .bool (decide (b.last < 18446744073709551615) && (!(b.held.any (conflB x)) && !(left.any (conflB x)))) ∧ Upd [] W3 wx)
      case first =>
        generalize (!(b.held.any (conflB x)) && !(left.any (conflB x))) = q at *
        by_cases hlast : b.last < 18446744073709551615
        · go_wp2_with fail
          refine (HMAY.out _ (Upd.refl _ _)).mono ?_
          rintro e w4 ⟨rfl, hu4⟩
          go_wp2_with fail
          go_meet
          case rel => exact ⟨by simp [hlast], hu4⟩
        · have HLS := hd hlast
          go_wp2_with fail
          go_meet
          case rel => exact ⟨by rw [decide_eq_false (by have := HLS.out; omega)]; rfl, Upd.refl _ _⟩
      case rest =>
        obtain ⟨rfl, huc⟩ := hcut
        have HU4 := hd (HU3.out.trans (huc.mono (M := k :: vh.ownBlock.toList) (by simp)))
        have HBK4 := hd (HBK3.out.later huc)
        have HO4 := hd (own_upd (L := []) HO3.out huc (by simp))
        have HLF4 := hd (own_upd (L := []) HLF3.out huc (by simp))
        have hb4 := HB3.out.upd huc (by simp)
        have HB4 := hd hb4
        have hc4 := hb4.cell
        have hcb4 := HBK4.out.blk.cell
        have hltb4 := HBK4.out.blk.lt
        simp only [BkS.cells] at hcb4
        have HW4 := hd (show W3.heap.size ≤ wc.heap.size from huc.size)
        clear hc3 hcb3 hltb3 huc hb4
        by_cases hq : b.last < 18446744073709551615 ∧ (!(b.held.any (conflB x)) && !(left.any (conflB x))) = true
        · have hq1 : decide (b.last < 18446744073709551615) = true := by simpa using hq.1
          have HST := hd (HS.out.trans (HPS2.out.trans (if_pos hq)))
          have HG := hd (grant_any x wc HBK4.out (HDD.out.upd HU4.out (by rw [List.mem_cons, not_or]; exact ⟨hE.1, by simpa using hE.2⟩) (by rw [List.mem_cons, not_or]; exact ⟨hM.1, by simpa using hM.2⟩)) hE.1 hM.1 HI.out.six hx6.out (mono_of HI.out.sorted x) HLEN.out.1 hlow hq.1 (by have := HU4.out.size; omega))
          rw [HXV.out, HTV.out] at HG
          rw [hq1, hq.2]
          clear hq hq1 HMAY HPS2 HS
          go_wp2_with fail
          refine HG.out.mono ?_
          rintro e w5 ⟨vh5, rfl, hbk5, hu5, hvh5⟩
          have hbn := fun (hm : k ∈ (Value.slice ao out.length co).ownBlock.toList) => own_ne_any HO4.out HBK4.out.blk (by decide) k (by simpa using hm) rfl
          have hO5 : LkRow w.heap.size w5 (.slice ao out.length co) out := own_upd HO4.out hu5 (fun g hg hm => by
            rcases List.mem_cons.1 hm with rfl | hm
            · exact hbn (by simpa using hg)
            · exact HF1.out g hg (by simpa using hm))
          have hlbn := fun (hm : k ∈ (Value.slice al left.length cl).ownBlock.toList) => own_ne_any HLF4.out HBK4.out.blk (by decide) k (by simpa using hm) rfl
          have hLF5 : LkRow w.heap.size w5 (.slice al left.length cl) left := own_upd HLF4.out hu5 (fun g hg hm => by
            rcases List.mem_cons.1 hm with rfl | hm
            · exact hlbn (by simpa using hg)
            · exact HF2.out g hg (by simpa using hm))
          have hL4 := HBK4.out.lt
          have HU5 := hd (show Upd (k :: vh.ownBlock.toList) w w5 from HU4.out.trans' hu5 (fun i hi => by
            rcases List.mem_cons.1 hi with rfl | hi
            · exact .inl (by simp)
            · rcases HVH.out i (by simpa using hi) with e | e
              · exact .inl (by simp [e])
              · exact .inr e))
          have hGO := own_ge HO4.out
          have hGL := own_ge HLF4.out
          have HV5 := hd (show (∀ g, vh5.ownBlock = some g → vh.ownBlock = some g ∨ w.heap.size ≤ g) ∧ Off (.slice ao out.length co) vh5 ∧ Off (.slice al left.length cl) vh5 from ⟨fun g hg => by
            rcases hvh5 g hg with e | e
            · exact HVH.out g e
            · exact .inr (by have := HU4.out.size; omega), fun g hg hg' => by
            rcases hvh5 g hg' with e | e
            · exact HF1.out g hg e
            · have := (hGO g hg).2; omega, fun g hg hg' => by
            rcases hvh5 g hg' with e | e
            · exact HF2.out g hg e
            · have := (hGL g hg).2; omega⟩)
          have HO5 := hd hO5
          have HLF5 := hd hLF5
          have HBK5 := hd hbk5
          have HS5 := hd (show wc.heap.size ≤ w5.heap.size from hu5.size)
          have HGO := hd hGO
          have HGL := hd hGL
          have hsz5 : w.heap.size ≤ w5.heap.size := HU5.out.size
          have HVL := hd (show ∀ g, vh5.ownBlock = some g → g < w5.heap.size from fun g hg => (own_ge hbk5.held g hg).2)
          clear hO5 hLF5 hbk5 hu5 hvh5 hbn hlbn hL4 hGO hGL hc4 hcb4 hltb4
          go_wp2_with (at_builtin; refine lkAppend rfl _ _ rfl w.heap.size w5.heap.size _ _ out [tokd b x] rfl (own_upd (L := []) HO5.out ((Upd.refl _ _).alloc _) (by simp)) rfl (one_row (Blk.new' _ _ _ rfl) _ (Nat.le_refl _)) HLEN.out.2.1 (by simp) (by simp; omega) ?_)
          intro v6 w6 hown6 hu6 hat6
          have HO6 := hd hown6
          have hu56 : Upd (Value.slice ao out.length co).ownBlock.toList w5 w6 := (((Upd.refl [] w5).alloc _).mono (by simp)).trans hu6
          have hkn : k ∉ (Value.slice ao out.length co).ownBlock.toList := fun hm => own_ne_any HO4.out HBK4.out.blk (by decide) k (by simpa using hm) rfl
          have HBK6 := hd (HBK5.out.later' hu56 (fun i hi hm => by
            rcases mem_foot.1 hi with rfl | e | e
            · exact hkn hm
            · exact HV5.out.2.1 i (by simpa using hm) e
            · have h1 := (HWL.out i e).2
              have h2 := (HGO.out i (by simpa using hm)).1
              omega))
          have HLF6 := hd (own_upd HLF5.out hu56 (fun g hg hm => HF3.out g (by simpa using hm) hg))
          have HU6 := hd (HU5.out.trans' hu56 (fun i hi => .inr (HGO.out i (by simpa using hi)).1))
          have HOF := hd (show Off v6 vh5 ∧ Off v6 (.slice al left.length cl) from ⟨fun g hg hg' => by
            rcases hat6 with e | e
            · rw [e] at hg; exact HV5.out.2.1 g hg hg'
            · rw [e] at hg
              have := HVL.out g hg'
              simp at hg
              omega, fun g hg hg' => by
            rcases hat6 with e | e
            · rw [e] at hg; exact HF3.out g hg hg'
            · rw [e] at hg
              have := (HGL.out g hg').2
              have := HS5.out
              simp at hg
              omega⟩)
          obtain ⟨a6, c6, rfl, -⟩ := own_open hown6
          clear hown6 hu6 hat6 hu56 hkn
          go_wp2_with fail
          go_roundw
          case rel =>
            refine ⟨t + 1, vh5, by go_num, by omega, ?_⟩
            rw [HST.out]
            exact ⟨HBK6.out, by simpa using HO6.out, HLF6.out, HU6.out, HV5.out.1, by simpa using HOF.out.1, HV5.out.2.2, by simpa using HOF.out.2⟩
          case measure => simp [intOf]; omega
        · have hq1 : (decide (b.last < 18446744073709551615) && (!(b.held.any (conflB x)) && !(left.any (conflB x)))) = false := by
            rw [Bool.eq_false_iff]
            intro e
            rw [Bool.and_eq_true, decide_eq_true_eq] at e
            exact hq e
          have HST := hd (HS.out.trans (HPS2.out.trans (if_neg hq)))
          have HGO := hd (own_ge HO4.out)
          have HGL := hd (own_ge HLF4.out)
          have hszc : w.heap.size ≤ wc.heap.size := HU4.out.size
          have HVL := hd (show ∀ g, vh'.ownBlock = some g → g < wc.heap.size from fun g hg => (own_ge HBK4.out.held g hg).2)
          rw [hq1]
          clear hq hq1 HMAY HPS2 HS hcb4 hltb4
          go_wp2_with (at_builtin; refine lkAppend rfl _ _ rfl w.heap.size wc.heap.size _ _ left [x] rfl (own_upd (L := []) HLF4.out ((Upd.refl _ _).alloc _) (by simp)) rfl (one_row (Blk.new' _ _ _ rfl) _ (Nat.le_refl _)) HLEN.out.2.2 (by simp) (by simp; omega) ?_)
          intro v6 w6 hown6 hu6 hat6
          have HO6 := hd hown6
          have hu56 : Upd (Value.slice al left.length cl).ownBlock.toList wc w6 := (((Upd.refl [] wc).alloc _).mono (by simp)).trans hu6
          have hkn : k ∉ (Value.slice al left.length cl).ownBlock.toList := fun hm => own_ne_any HLF4.out HBK4.out.blk (by decide) k (by simpa using hm) rfl
          have HBK6 := hd (HBK4.out.later' hu56 (fun i hi hm => by
            rcases mem_foot.1 hi with rfl | e | e
            · exact hkn hm
            · exact HF2.out i (by simpa using hm) e
            · have h1 := (HWL.out i e).2
              have h2 := (HGL.out i (by simpa using hm)).1
              omega))
          have HO5 := hd (own_upd HO4.out hu56 (fun g hg hm => HF3.out g hg (by simpa using hm)))
          have HU6 := hd (HU4.out.trans' hu56 (fun i hi => .inr (HGL.out i (by simpa using hi)).1))
          have HOF := hd (show Off v6 vh' ∧ Off (.slice ao out.length co) v6 from ⟨fun g hg hg' => by
            rcases hat6 with e | e
            · rw [e] at hg; exact HF2.out g hg hg'
            · rw [e] at hg
              have := HVL.out g hg'
              simp at hg
              omega, fun g hg hg' => by
            rcases hat6 with e | e
            · rw [e] at hg'; exact HF3.out g hg hg'
            · rw [e] at hg'
              have := (HGO.out g hg).2
              simp at hg'
              omega⟩)
          obtain ⟨a6, c6, rfl, -⟩ := own_open hown6
          clear hown6 hu6 hat6 hu56 hkn
          go_wp2_with fail
          go_roundw
          case rel =>
            refine ⟨t + 1, vh', by go_num, by omega, ?_⟩
            rw [HST.out]
            exact ⟨HBK6.out, HO5.out, by simpa using HO6.out, HU6.out, HVH.out, HF1.out, by simpa using HOF.out.1, by simpa using HOF.out.2⟩
          case measure => simp [intOf]; omega
    · obtain rfl : t = d.waits.length := by omega
      have hzb := hbb.frozen
      have HR := hd (show pumpP insK d = ({ (pst insK d d.waits.length).1 with waits := (pst insK d d.waits.length).2.2 }, (pst insK d d.waits.length).2.1) from rfl)
      have HGL := hd (own_ge HLF.out)
      generalize pst insK d d.waits.length = st at *
      obtain ⟨b, out, left⟩ := st
      simp only at *
      have HFIN : Hd (BookAt B (wr.setCell ⟨k, 1, none⟩ (.slice al left.length cl)) k vh' (.slice al left.length cl) { b with waits := left } ∧ LkRow w.heap.size (wr.setCell ⟨k, 1, none⟩ (.slice al left.length cl)) (.slice ao out.length co) out ∧ Upd (k :: vh.ownBlock.toList) w (wr.setCell ⟨k, 1, none⟩ (.slice al left.length cl))) := by
        refine hd ⟨⟨hbb.set 1 _, ?_, ?_, fun g hg hg' => HF2.out g hg' hg⟩, ?_, HU.out.setCell (p := ⟨k, 1, none⟩) (.inl (by simp)) _⟩
        · exact own_upd (L := [k]) HBK.out.held ((Upd.refl _ _).setCell (p := ⟨k, 1, none⟩) (by simp) _) (fun g hg hm => by
            simp only [List.mem_cons, List.not_mem_nil, or_false] at hm
            exact own_ne_any HBK.out.held HBK.out.blk (by decide) g hg hm)
        · exact own_upd (L := [k]) (own_mono HLF.out hB) ((Upd.refl _ _).setCell (p := ⟨k, 1, none⟩) (by simp) _) (fun g hg hm => by
            simp only [List.mem_cons, List.not_mem_nil, or_false] at hm
            exact own_ne_any HLF.out HBK.out.blk (by decide) g hg hm)
        · exact own_upd (L := [k]) HO.out ((Upd.refl _ _).setCell (p := ⟨k, 1, none⟩) (by simp) _) (fun g hg hm => by
            simp only [List.mem_cons, List.not_mem_nil, or_false] at hm
            exact own_ne_any HO.out HBK.out.blk (by decide) g hg hm)
      clear hbb
      go_wp2_with fail
      go_ret
      refine ⟨vh', .slice al left.length cl, .slice ao out.length co, rfl, ?_, ?_, HFIN.out.2.2, fun g hg => ?_⟩
      · rw [HR.out]; exact HFIN.out.1
      · rw [HR.out]; exact HFIN.out.2.1
      · rcases mem_foot.1 hg with rfl | e | e
        · exact .inl (mem_foot.2 (.inl rfl))
        · rcases HVH.out g e with e | e
          · exact .inl (mem_foot.2 (.inr (.inl e)))
          · exact .inr e
        · exact .inr (HGL.out g e).1
end Go.Proofs.YtpniggmdokkkcaaGreatDoor
