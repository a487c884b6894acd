/-
  The document's acceptor (chatelaineref16): Accept, walked. Conditions: numbers that there may be, a list of entries that lies in a row of its own.
-/
import Derived.Test.YtfhmdeamhmjddaaBm12
import Derived.Deep.Cut
import Derived.Deep.CutRange
import Derived.Deep.CutBlock
set_option linter.unusedVariables false
set_option linter.unusedSimpArgs false
set_option maxRecDepth 100000
namespace Go.Proofs.Ytfhmdeamhmjddaa
open Go.RowKit

def moreI (b : Bool) : Int := if b = true then 1 else 0
theorem insFold_next (x : EntS) (l : List EntS) (t : Nat) (ht : t < l.length) (st : List EntS × Bool × Bool) : (l.take (t + 1)).foldl (insStep x) st = insStep x ((l.take t).foldl (insStep x) st) l[t] := by
  rw [List.take_succ_eq_append_getElem ht, List.foldl_append]; rfl
/-- The document's Accept, the ballot not being low, of what its loop found. -/
def AccS.refDone (d : AccS) (m : MsgS) (x : EntS) (st : List EntS × Bool × Bool) : AccS × MsgS :=
  if d.base < m.slot ∧ 64 < (d.list.length : Int) + moreI st.2.2 then (d, {})
  else ({ d with bal := m.bal, list := if st.2.1 = true then st.1 else st.1 ++ [x] }, { kind := 4, bal := m.bal, slot := m.slot })

/-- The blocks of the document's Accept. -/
structure RaAt (B0 B : Nat) (w : World) (kx : Nat) (x : EntS) (d : AccS) (a : Option Addr) (cap : Nat) (m : MsgS) (ma : Option Addr) (mn mc : Nat) : Prop where
  s : Blk w B #[.bool d.wit, .int .u64 d.bal.c, .int .i64 d.bal.n, .int .i64 d.base, .slice a d.list.length cap, .int .i64 d.node, .int .i64 d.til] 54
  m : Blk w (B + 1) #[.int .i64 m.kind, .int .i64 m.frm, .int .i64 m.to, .int .i64 m.sub, .int .u64 m.bal.c, .int .i64 m.bal.n, .int .i64 m.slot, .int .i64 m.time, .bool m.okb, .string m.text, .slice ma mn mc] 93
  z : Blk w (B + 1 + 1) #[.bool false, .int .u64 0, .int .i64 0, .int .i64 0, .slice none 0 0, .int .i64 0, .int .i64 0] 54
  y : Blk w (B + 1 + 1 + 1) #[.int .i64 0, .int .i64 0, .int .i64 0, .int .i64 0, .int .u64 0, .int .i64 0, .int .i64 0, .int .i64 0, .bool false, .string ⟨#[]⟩, .slice none 0 0] 93
  x : Blk w kx #[.int .i64 x.slot, .int .u64 x.bal.c, .int .i64 x.bal.n, .string x.text] 102
  row : RefRow B0 w (.slice a d.list.length cap) d.list
theorem RaAt.upd {B0 B kx cap mn mc : Nat} {w w' : World} {x : EntS} {d : AccS} {a ma : Option Addr} {m : MsgS} (h : RaAt B0 B w kx x d a cap m ma mn mc) (hu : Upd [] w w') : RaAt B0 B w' kx x d a cap m ma mn mc :=
  ⟨h.s.upd hu (by simp), h.m.upd hu (by simp), h.z.upd hu (by simp), h.y.upd hu (by simp), h.x.upd hu (by simp), own_upd h.row hu (by simp)⟩
/-- A row of the list's kind, made since, was appended to. -/
theorem RaAt.own {B0 B kx cap mn mc g n : Nat} {w w' : World} {x : EntS} {d : AccS} {a ma : Option Addr} {m : MsgS} {v : Value} {xs : List Value} (h : RaAt B0 B w kx x d a cap m ma mn mc) (hu : Upd v.ownBlock.toList w w') (ho : w.ownsRow g 102 4 v n xs)
    (hx : ∀ q, v.ownBlock = some q → q ≠ kx) (hl : ∀ q, v.ownBlock = some q → B ≤ q) (hB : ∀ q, (Value.slice a d.list.length cap).ownBlock = some q → q < B) : RaAt B0 B w' kx x d a cap m ma mn mc :=
  ⟨blk_own h.s hu ho (by decide), blk_own h.m hu ho (by decide), blk_own h.z hu ho (by decide), blk_own h.y hu ho (by decide), h.x.upd hu (fun hm => hx kx (by simpa using hm) rfl), own_upd h.row hu (fun q hq hm => by
    have h1 := hl q (by simpa using hm)
    have h2 := hB q hq
    omega)⟩
theorem row_lt {B0 : Nat} {w : World} {v : Value} {l : List EntS} (h : RefRow B0 w v l) : ∀ q, v.ownBlock = some q → q < w.heap.size := fun q hq => (own_ge h q hq).2

/-- Behind an append to the list. -/
theorem ra_step {B0 kx cap mn mc : Nat} {w wr wa w' : World} {x : EntS} {d : AccS} {a ma : Option Addr} {m : MsgS} {v v' : Value} {L : List EntS}
    (hU : Upd [] w wr) (hO : RefRow w.heap.size wr v L) (hR : RaAt B0 w.heap.size wr kx x d a cap m ma mn mc) (hk : ∀ q, v.ownBlock = some q → q ≠ kx)
    (hl : ∀ q, (Value.slice a d.list.length cap).ownBlock = some q → q < w.heap.size)
    (ha : Upd [] wr wa) (h' : Upd v.ownBlock.toList wa w') (hat : v'.ownBlock = v.ownBlock ∨ v'.ownBlock = some wa.heap.size) :
    Upd [] w w' ∧ RaAt B0 w.heap.size w' kx x d a cap m ma mn mc ∧ (∀ q, v'.ownBlock = some q → q ≠ kx) := by
  have hge := own_ge hO
  refine ⟨(hU.trans ha).trans' h' (fun i hi => .inr (hge i (by simpa using hi)).1), (hR.upd ha).own h' (own_upd (L := []) hO ha (by simp)) hk (fun q hq => (hge q hq).1) hl, fun q hq => ?_⟩
  rcases hat with h | h
  · exact hk q (h ▸ hq)
  · have h1 := hR.x.lt
    have h2 := ha.size
    rw [h] at hq
    have : wa.heap.size = q := by simpa using hq
    omega

/-- What the loop of Accept holds at each round's head. -/
def RaLoop (B0 B : Nat) (w : World) (kx : Nat) (x : EntS) (d : AccS) (a : Option Addr) (cap : Nat) (m : MsgS) (ma : Option Addr) (mn mc : Nat) (st0 : List EntS × Bool × Bool) (s7 s8 s9 c : Value) (wr : World) : Prop :=
  ∃ t : Nat, c = .int .i64 t ∧ t ≤ d.list.length ∧ s8 = .bool ((d.list.take t).foldl (insStep x) st0).2.1 ∧ s9 = .int .i64 (moreI ((d.list.take t).foldl (insStep x) st0).2.2) ∧
    Upd [] w wr ∧ RefRow w.heap.size wr s7 ((d.list.take t).foldl (insStep x) st0).1 ∧ RaAt B0 B wr kx x d a cap m ma mn mc ∧ (∀ q, s7.ownBlock = some q → q ≠ kx)

set_option maxHeartbeats 8000000 in
theorem refAccept_any (B : Nat) (d : AccS) (l : Value) (m : MsgS) (ma : Option Addr) (mn mc : Nat) (w : World) (h : RefRow B w l d.list) (hf : d.fine) (hmt : m.text.size ≤ 1099511627776) (hBw : B ≤ w.heap.size) :
    Calls Try.prog 52 #[.agg (d.cells l), m.val (.slice ma mn mc)] w fun e w' =>
      ∃ l', e = .returned (.tuple #[.agg ((d.refAccept m).1.cells l'), (d.refAccept m).2.val (.slice none 0 0)]) ∧ Upd [] w w' ∧ RefRow B w' l' (d.refAccept m).1.list := by
  have hlen := hf.sorted.len
  obtain ⟨a, cap, rfl, hnc, hcm, hac⟩ := own_open2 h
  have e4 := four_new w (d.cells (.slice a d.list.length cap)) (msgC m (.slice ma mn mc)) #[.bool false, .int .u64 0, .int .i64 0, .int .i64 0, .slice none 0 0, .int .i64 0, .int .i64 0] (msgC {} (.slice none 0 0)) 54 93 54 93
  have hab := refAbove_any d.bal m.bal
  have hrf := refRefuse_any d a d.list.length cap
  simp only [AccS.cells, msgC, MsgS.val] at e4 hrf
  rw [show d.cells (.slice a d.list.length cap) = #[.bool d.wit, .int .u64 d.bal.c, .int .i64 d.bal.n, .int .i64 d.base, .slice a d.list.length cap, .int .i64 d.node, .int .i64 d.til] from rfl]
  rw [show m.val (.slice ma mn mc) = .agg #[.int .i64 m.kind, .int .i64 m.frm, .int .i64 m.to, .int .i64 m.sub, .int .u64 m.bal.c, .int .i64 m.bal.n, .int .i64 m.slot, .int .i64 m.time, .bool m.okb, .string m.text, .slice ma mn mc] from rfl]
  have HAB := hd (show ∀ w, Calls Try.prog 76 #[.agg #[.int .u64 d.bal.c, .int .i64 d.bal.n], .agg #[.int .u64 m.bal.c, .int .i64 m.bal.n]] w fun e w' => e = .returned (.bool (d.low m.bal)) ∧ Upd [] w w' from hab)
  have HRF := hd hrf
  have HDG := hd (fun W => refdigest_any m.text W (by omega))
  have H := hd h
  have HRL := hd (row_lt h)
  have HBW := hd hBw
  clear hab hrf h hmt hBw
  go_enter Try.func52, Try.ntmps52
  go_wp2_with fail
  obtain ⟨W, hW, hu, hA, hB, hC, hD, hsz⟩ := e4
  rw [hW]
  clear hW
  refine (HAB.out W).mono ?_
  rintro e W1 ⟨rfl, hu1⟩
  have HU1 := hd (hu.trans hu1)
  have HA := hd (hA.upd hu1 (by simp))
  have HB := hd (hB.upd hu1 (by simp))
  have HC := hd (hC.upd hu1 (by simp))
  have HD := hd (hD.upd hu1 (by simp))
  have hs1 := hu1.size
  clear hu hu1 hA hB hC hD
  have hac := HA.out.cell
  have hbc := HB.out.cell
  have hcc := HC.out.cell
  have hcz := HC.out.frozen
  have hdc := HD.out.cell
  have hdz := HD.out.frozen
  have n1 : ¬ (w.heap.size + 1 + 1 = w.heap.size) := by omega
  have n2 : ¬ (w.heap.size = w.heap.size + 1 + 1) := by omega
  have n3 : ¬ (w.heap.size + 1 + 1 + 1 = w.heap.size) := by omega
  have n4 : ¬ (w.heap.size = w.heap.size + 1 + 1 + 1) := by omega
  cases hl : d.low m.bal
  case true =>
    have HP := hd (show d.refAccept m = (d, { kind := 5, bal := d.bal }) by unfold AccS.refAccept; rw [if_pos hl])
    go_wp2_with fail
    go_region_held3 (fun w' => w'.cell? ⟨w.heap.size, 0, none⟩ = some (.bool d.wit) ∧ w'.cell? ⟨w.heap.size, 1, none⟩ = some (.int .u64 d.bal.c) ∧ w'.cell? ⟨w.heap.size, 2, none⟩ = some (.int .i64 d.bal.n) ∧ w'.cell? ⟨w.heap.size, 3, none⟩ = some (.int .i64 d.base) ∧ w'.cell? ⟨w.heap.size, 4, none⟩ = some (.slice a d.list.length cap) ∧ w'.cell? ⟨w.heap.size, 5, none⟩ = some (.int .i64 d.node) ∧ w'.cell? ⟨w.heap.size, 6, none⟩ = some (.int .i64 d.til)) (go_keep)
      (first | ((with_reducible refine (HRF.out _ _).mono ?_); rintro e w2 ⟨rfl, hu2⟩; have hu3 := Upd.trans (Upd.refl [] W1).drew hu2; have k1 := (HA.out.upd hu3 (by simp)).cell; have k2 := (HC.out.upd hu3 (by simp)).cell; have k3 := (HC.out.upd hu3 (by simp)).frozen; have k4 := (HD.out.upd hu3 (by simp)).cell; have k5 := (HD.out.upd hu3 (by simp)).frozen; have HU3 := hd (HU1.out.trans hu3); clear hu2 hu3))
    go_wp2_with fail
    have hx := HU3.out
    have hy : Upd [] w (W1) := HU1.out
    refine bodyPost_ret (v := .tuple #[.agg #[.bool d.wit, .int .u64 d.bal.c, .int .i64 d.bal.n, .int .i64 d.base, .slice a d.list.length cap, .int .i64 d.node, .int .i64 d.til], .agg #[.int .i64 5, .int .i64 0, .int .i64 0, .int .i64 0, .int .u64 d.bal.c, .int .i64 d.bal.n, .int .i64 0, .int .i64 0, .bool false, .string ⟨#[]⟩, .slice none 0 0]]) (by simp [results, Try.results52, go_sem, k2, k4]) rfl ?_
    rw [HP.out]
    exact ⟨_, rfl, (by repeat (first | with_reducible exact hx | with_reducible exact Upd.refl _ _ | with_reducible refine Upd.alloc ?_ _ | with_reducible refine Upd.drew ?_ | with_reducible refine Upd.setCell ?_ (by first | (simp; done) | (simp; omega)) _)), own_upd (L := []) H.out (by repeat (first | with_reducible exact hx | with_reducible exact Upd.refl _ _ | with_reducible refine Upd.alloc ?_ _ | with_reducible refine Upd.drew ?_ | with_reducible refine Upd.setCell ?_ (by first | (simp; done) | (simp; omega)) _)) (by simp)⟩
  case false =>
    obtain ⟨x, hx⟩ : ∃ x : EntS, x = ⟨m.slot, m.bal, d.kept m.text⟩ := ⟨_, rfl⟩
    have HX := hd hx
    have HP := hd (show d.refAccept m = d.refDone m x (d.list.foldl (insStep x) ([], decide (m.slot ≤ d.base), true)) by
      unfold AccS.refAccept AccS.refDone moreI
      rw [if_neg (by simp [hl]), hx])
    clear hx
    have HRA := hd (show RaAt B w.heap.size (W1.alloc (.cells #[.int .i64 m.slot, .int .u64 m.bal.c, .int .i64 m.bal.n, .string m.text] 102)) W1.heap.size ⟨m.slot, m.bal, m.text⟩ d a cap m ma mn mc from
      ⟨HA.out.alloc _, HB.out.alloc _, HC.out.alloc _, HD.out.alloc _, Blk.new _ _ _, own_upd (L := []) H.out (HU1.out.alloc _) (by simp)⟩)
    have HUA := hd (HU1.out.alloc (.cells #[.int .i64 m.slot, .int .u64 m.bal.c, .int .i64 m.bal.n, .string m.text] 102))
    have hd1 := HD.out.lt
    have HLT := hd (show W1.heap.size < (W1.alloc (.cells #[.int .i64 m.slot, .int .u64 m.bal.c, .int .i64 m.bal.n, .string m.text] 102)).heap.size by simp)
    have hz0 : w.heap.size < W1.heap.size := by omega
    go_upto_if 28 with fail
    generalize W1.alloc (.cells #[.int .i64 m.slot, .int .u64 m.bal.c, .int .i64 m.bal.n, .string m.text] 102) = WA at *
    obtain ⟨kx, hkx⟩ : ∃ kx, kx = W1.heap.size := ⟨_, rfl⟩
    rw [← hkx] at HRA HLT hd1 ⊢
    clear hac hbc hcc hcz hdc hdz HA HB HC HD HU1 hs1 hz0 hkx
    go_cut [2, 3, 4, 5, 6] from 0 to 32 (fun s2 s3 s4 s5 s6 wx => s2 = .pointer (some ⟨w.heap.size, 0, none⟩) ∧ s3 = .pointer (some ⟨w.heap.size + 1, 0, none⟩) ∧ s4 = .pointer (some ⟨w.heap.size + 1 + 1, 0, none⟩) ∧ s5 = .pointer (some ⟨w.heap.size + 1 + 1 + 1, 0, none⟩) ∧ s6 = .pointer (some ⟨kx, 0, none⟩) ∧ RaAt B w.heap.size wx kx x d a cap m ma mn mc ∧ Upd [] w wx)
    case first =>
      have hac := HRA.out.s.cell
      have hbc := HRA.out.m.cell
      go_wp2_with fail
      · have hwt : d.wit = true := by assumption
        have HK := hd (show d.kept m.text = digestOf m.text by unfold AccS.kept; rw [if_pos hwt])
        refine (HDG.out _).mono ?_
        rintro e w2 ⟨rfl, hu2⟩
        have HR2 := hd (HRA.out.upd hu2)
        have HU2 := hd (HUA.out.trans hu2)
        have hxc := HR2.out.x.cell
        have hxz := HR2.out.x.frozen
        clear hu2 hac hbc HRA HUA
        go_wp2_with fail
        go_meet
        case rel =>
          rw [HX.out, HK.out]
          have hk2 : Upd [kx] w2 (w2.setCell ⟨kx, 3, none⟩ (.string (digestOf m.text))) := (Upd.refl _ _).setCell (by simp) _
          have hy := HR2.out.y.lt
          refine ⟨rfl, rfl, rfl, rfl, rfl, ⟨HR2.out.s.upd hk2 (by simp; omega), HR2.out.m.upd hk2 (by simp; omega), HR2.out.z.upd hk2 (by simp; omega), HR2.out.y.upd hk2 (by simp; omega), HR2.out.x.set 3 _, own_upd HR2.out.row hk2 (fun q hq => by have := HRL.out q hq; simp; omega)⟩, HU2.out.trans' hk2 (by intro i hi; simp at hi; subst hi; exact .inr (by omega))⟩
      · have hwf : d.wit = false := by assumption
        have HK := hd (show d.kept m.text = m.text by unfold AccS.kept; rw [if_neg (by simp [hwf])])
        go_meet
        case rel => rw [HX.out, HK.out]; exact ⟨rfl, rfl, rfl, rfl, rfl, HRA.out, HUA.out⟩
    case rest =>
      obtain ⟨rfl, rfl, rfl, rfl, rfl, hra, hua⟩ := hcut
      have HR5 := hd (hra.upd ((Upd.refl [] wc).alloc (.cells #[] 102)))
      have HU5 := hd (hua.alloc (.cells #[] 102))
      have hsx := hra.x.lt
      have hsy := hra.y.lt
      have HO5 := hd (show RefRow w.heap.size (wc.alloc (.cells #[] 102)) (.slice (some ⟨wc.heap.size, 0, none⟩) 0 0) [] from ⟨rfl, .inr ⟨wc.heap.size, 0, #[], rfl, by omega, Blk.new _ _ _, by simp, by unfold maxLen; omega, rfl, rfl⟩⟩)
      have HN5 := hd (show kx ≠ wc.heap.size by omega)
      go_upto_region 7 with fail
      generalize wc.alloc (.cells #[] 102) = W5 at *
      have hac := HR5.out.s.cell
      have hbc := HR5.out.m.cell
      clear hra hua hsx hsy HRA HUA HLT
      go_wp2_with fail
      go_loopw [7, 8, 9, 42] (RaLoop B w.heap.size w kx x d a cap m ma mn mc ([], decide (m.slot ≤ d.base), true)) (fun _ _ _ c _ => d.list.length - (intOf c).toNat)
      case atStart => exact ⟨0, rfl, by omega, rfl, rfl, HU5.out, HO5.out, HR5.out, fun q hq => by
        have : wc.heap.size = q := by simpa [Value.ownBlock] using hq
        have := HN5.out
        omega⟩
      case round =>
        clear HR5 HU5 HO5 HN5 hac hbc
        obtain ⟨t, rfl, ht, rfl, rfl, hu, hown, hra, hkx⟩ := hrel
        have hfl := insFold_len x (d.list.take t) ([], decide (m.slot ≤ d.base), true)
        have hfl : ((d.list.take t).foldl (insStep x) ([], decide (m.slot ≤ d.base), true)).1.length ≤ 2 * t := by
          rw [List.length_take] at hfl; simp only [List.length_nil] at hfl; omega
        have hac := hra.s.cell
        have hbc := hra.m.cell
        have hxc := hra.x.cell
        have hsy := hra.y.lt
        have hsx := hra.x.lt
        have HU := hd hu
        have HO := hd hown
        have HR := hd hra
        have HK := hd hkx
        have hlw0 : w.heap.size < wr.heap.size := by omega
        have hlw1 : w.heap.size + 1 < wr.heap.size := by omega
        by_cases htl : t < d.list.length
        · obtain ⟨g, cap', hge, hgB, hgl, -, hgc, hgz⟩ := own_cases hra.row (by omega)
          simp only [Value.slice.injEq] at hge
          obtain ⟨rfl, -, rfl⟩ := hge
          obtain ⟨c0, c1, c2, c3⟩ := row_cells hgc t htl
          have htl' : (t : Int) < (d.list.length : Int) := by omega
          have HST := hd (insFold_next x d.list t htl ([], decide (m.slot ≤ d.base), true))
          clear hgc hu hown hra hkx
          generalize d.list[t]'_ = e at *
          generalize (d.list.take t).foldl (insStep x) ([], decide (m.slot ≤ d.base), true) = st at *
          obtain ⟨s, ⟨c, kk⟩, tx⟩ := e
          obtain ⟨L, dn, mo⟩ := st
          simp only at c0 c1 c2 c3 hfl HST HO
          by_cases hq : s = x.slot
          · subst hq
            have hq3 : decide (x.slot ≤ x.slot) = true := by simp
            cases dn
            case true =>
              have HS := hd (show insStep x (L, true, mo) ⟨x.slot, ⟨c, kk⟩, tx⟩ = (L, true, false) by simp [insStep])
              go_wp2_with fail
              go_roundw
              case rel =>
                refine ⟨t + 1, by go_num, by omega, ?_, ?_, HU.out.alloc _, ?_, HR.out.upd ((Upd.refl [] _).alloc _), HK.out⟩
                all_goals rw [HST.out, HS.out]
                · rfl
                · exact own_upd (L := []) HO.out ((Upd.refl _ _).alloc _) (by simp)
              case measure => simp [intOf]; omega
            case false =>
              have HS := hd (show insStep x (L, false, mo) ⟨x.slot, ⟨c, kk⟩, tx⟩ = (L ++ [x], true, false) by simp [insStep])
              go_wp2_with (at_builtin; refine refAppend rfl (.tmp 60) (.tmp 62) rfl w.heap.size _ L x rfl (own_upd (L := []) HO.out (((Upd.refl _ _).alloc _).alloc _) (by simp)) (wr.heap.size + 1) rfl (Blk.new' (wr.alloc _) _ _ (by simp)) (by omega) (by simp; omega) ?_)
              intro v' w' hown' hU' hat
              obtain ⟨q1, q2, q3⟩ := ra_step HU.out HO.out HR.out HK.out HRL.out (((Upd.refl _ _).alloc _).alloc _) hU' (by simpa using hat)
              have HU2 := hd q1
              have HR2 := hd q2
              have HK2 := hd q3
              have HO2 := hd hown'
              have hxc := q2.x.cell
              have hyc := (Blk.upd ((Blk.new wr #[.int .i64 x.slot, .int .u64 c, .int .i64 kk, .string tx] 102).alloc _) hU' (fun hm => by have := (own_ge HO.out wr.heap.size (by simpa using hm)).2; omega)).cell
              clear q1 q2 q3 hown' hU' (by simpa using hat)
              go_wp2_with fail
              go_roundw
              case rel =>
                refine ⟨t + 1, by go_num, by omega, ?_, ?_, HU2.out, ?_, HR2.out, HK2.out⟩
                all_goals rw [HST.out, HS.out]
                · rfl
                · exact HO2.out
              case measure => simp [intOf]; omega
          · have hq1 : (s == x.slot) = false := by simpa using hq
            have hq2 : (s != x.slot) = true := by simpa using hq
            cases dn
            case true =>
              have HS := hd (show insStep x (L, true, mo) ⟨s, ⟨c, kk⟩, tx⟩ = (L ++ [⟨s, ⟨c, kk⟩, tx⟩], true, mo) by simp [insStep, hq])
              go_wp2_with (at_builtin; refine refAppend rfl (.tmp 69) (.tmp 71) rfl w.heap.size _ L ⟨s, ⟨c, kk⟩, tx⟩ rfl (own_upd (L := []) HO.out (((Upd.refl _ _).alloc _).alloc _) (by simp)) (wr.heap.size + 1) rfl (Blk.new' (wr.alloc _) _ _ (by simp)) (by omega) (by simp; omega) ?_)
              intro v' w' hown' hU' hat
              obtain ⟨q1, q2, q3⟩ := ra_step HU.out HO.out HR.out HK.out HRL.out (((Upd.refl _ _).alloc _).alloc _) hU' (by simpa using hat)
              have HU2 := hd q1
              have HR2 := hd q2
              have HK2 := hd q3
              have HO2 := hd hown'
              clear q1 q2 q3 hown' hU' (by simpa using hat)
              go_wp2_with fail
              go_roundw
              case rel =>
                refine ⟨t + 1, by go_num, by omega, ?_, ?_, HU2.out, ?_, HR2.out, HK2.out⟩
                all_goals rw [HST.out, HS.out]
                exact HO2.out
              case measure => simp [intOf]; omega
            case false =>
              by_cases hle : x.slot ≤ s
              · have hle' : decide (x.slot ≤ s) = true := decide_eq_true hle
                have HS := hd (show insStep x (L, false, mo) ⟨s, ⟨c, kk⟩, tx⟩ = (L ++ [x] ++ [⟨s, ⟨c, kk⟩, tx⟩], true, mo) by simp [insStep, hq, hle])
                go_wp2_with (at_builtin; refine refAppend rfl (.tmp 60) (.tmp 62) rfl w.heap.size _ L x rfl (own_upd (L := []) HO.out (((Upd.refl _ _).alloc _).alloc _) (by simp)) (wr.heap.size + 1) rfl (Blk.new' (wr.alloc _) _ _ (by simp)) (by omega) (by simp; omega) ?_)
                intro v' w' hown' hU' hat
                obtain ⟨q1, q2, q3⟩ := ra_step HU.out HO.out HR.out HK.out HRL.out (((Upd.refl _ _).alloc _).alloc _) hU' (by simpa using hat)
                have hyb := (Blk.upd ((Blk.new wr #[.int .i64 s, .int .u64 c, .int .i64 kk, .string tx] 102).alloc _) hU' (fun hm => by have := (own_ge HO.out wr.heap.size (by simpa using hm)).2; omega))
                have HU2 := hd q1
                have HR2 := hd q2
                have HK2 := hd q3
                have HO2 := hd hown'
                have hxc := q2.x.cell
                have hyc := hyb.cell
                have hyl := hyb.lt
                have hsz2 := q1.size
                clear q1 q2 q3 hown' hU' hat hyb HO HU HR HK
                go_wp2_with (at_builtin; refine refAppend rfl (.tmp 69) (.tmp 71) rfl w.heap.size _ (L ++ [x]) ⟨s, ⟨c, kk⟩, tx⟩ rfl (own_upd (L := []) HO2.out ((Upd.refl _ _).alloc _) (by simp)) w'.heap.size rfl (Blk.new _ _ _) (by simp; omega) (by simp; omega) ?_)
                intro v2 w2 hown2 hU2 hat2
                obtain ⟨q1, q2, q3⟩ := ra_step HU2.out HO2.out HR2.out HK2.out HRL.out ((Upd.refl _ _).alloc _) hU2 (by simpa using hat2)
                have HU3 := hd q1
                have HR3 := hd q2
                have HK3 := hd q3
                have HO3 := hd hown2
                clear q1 q2 q3 hown2 hU2 hat2
                go_wp2_with fail
                go_roundw
                case rel =>
                  refine ⟨t + 1, by go_num, by omega, ?_, ?_, HU3.out, ?_, HR3.out, HK3.out⟩
                  all_goals rw [HST.out, HS.out]
                  have h9 := HO3.out
                  show RefRow w.heap.size w2 v2 (L ++ [x] ++ [⟨s, ⟨c, kk⟩, tx⟩])
                  rw [List.append_assoc]
                  exact h9
                case measure => simp [intOf]; omega
              · have hle' : decide (x.slot ≤ s) = false := decide_eq_false hle
                have HS := hd (show insStep x (L, false, mo) ⟨s, ⟨c, kk⟩, tx⟩ = (L ++ [⟨s, ⟨c, kk⟩, tx⟩], false, mo) by simp [insStep, hq, hle])
                go_wp2_with (at_builtin; refine refAppend rfl (.tmp 69) (.tmp 71) rfl w.heap.size _ L ⟨s, ⟨c, kk⟩, tx⟩ rfl (own_upd (L := []) HO.out (((Upd.refl _ _).alloc _).alloc _) (by simp)) (wr.heap.size + 1) rfl (Blk.new' (wr.alloc _) _ _ (by simp)) (by omega) (by simp; omega) ?_)
                intro v' w' hown' hU' hat
                obtain ⟨q1, q2, q3⟩ := ra_step HU.out HO.out HR.out HK.out HRL.out (((Upd.refl _ _).alloc _).alloc _) hU' (by simpa using hat)
                have HU2 := hd q1
                have HR2 := hd q2
                have HK2 := hd q3
                have HO2 := hd hown'
                clear q1 q2 q3 hown' hU' (by simpa using hat)
                go_wp2_with fail
                go_roundw
                case rel =>
                  refine ⟨t + 1, by go_num, by omega, ?_, ?_, HU2.out, ?_, HR2.out, HK2.out⟩
                  all_goals rw [HST.out, HS.out]
                  exact HO2.out
                case measure => simp [intOf]; omega
        · obtain rfl : t = d.list.length := by omega
          rw [List.take_length] at hown
          have hrow := hra.row
          have hlen2 : (d.list.foldl (insStep x) ([], decide (m.slot ≤ d.base), true)).1.length ≤ 2 * d.list.length := by rw [List.take_length] at hfl; exact hfl
          rw [List.take_length]
          have HU := hd hu
          have HO := hd hown
          clear hfl hu hown
          generalize d.list.foldl (insStep x) ([], decide (m.slot ≤ d.base), true) = st at *
          obtain ⟨L, dn, mo⟩ := st
          simp only at hlen2 HO ⊢
          have hm01 : 0 ≤ moreI mo ∧ moreI mo ≤ 1 := by unfold moreI; split <;> omega
          have HR := hd hra
          have n5 : ¬ (w.heap.size + 1 = w.heap.size) := by omega
          have n6 : ¬ (w.heap.size = w.heap.size + 1) := by omega
          clear hra hrow hac hbc HDG HRF HAB H
          go_upto_if 75 with fail
          go_cut [7] from 76 to 79 (fun s7 wx => RefRow w.heap.size wx s7 (if dn = true then L else L ++ [x]) ∧ Upd [] w wx ∧ RaAt B w.heap.size wx kx x d a cap m ma mn mc)
          case first =>
            cases dn
            case true =>
              go_wp2_with fail
              go_meet
              case rel => exact ⟨HO.out, HU.out, HR.out⟩
            case false =>
              go_wp2_with (at_builtin; refine refAppend rfl (.tmp 76) (.tmp 78) rfl w.heap.size _ L x rfl (own_upd (L := []) HO.out ((Upd.refl _ _).alloc _) (by simp)) wr.heap.size rfl (Blk.new _ _ _) (by omega) (by simp; omega) ?_)
              intro v' w' hown' hU' hat
              obtain ⟨q1, q2, q3⟩ := ra_step HU.out HO.out HR.out HK.out HRL.out ((Upd.refl _ _).alloc _) hU' (by simpa using hat)
              have HU2 := hd q1
              have HR2 := hd q2
              have HO2 := hd hown'
              clear q1 q2 q3 hown' hU' hat
              go_wp2_with fail
              go_meet
              case rel => exact ⟨HO2.out, HU2.out, HR2.out⟩
          case rest =>
            obtain ⟨ho, hu, hra⟩ := hcut
            obtain ⟨xa, xc, rfl, -⟩ := own_open ho
            have HOF := hd ho
            have HUF := hd hu
            have HRF := hd hra
            have hac := hra.s.cell
            have haz := hra.s.frozen
            have hbc := hra.m.cell
            have hcc := hra.z.cell
            have hcz := hra.z.frozen
            have hdc := hra.y.cell
            have hdz := hra.y.frozen
            clear ho hu hra HU HO HR HK hxc
            by_cases hb : d.base < m.slot
            · skip
              by_cases hf : 64 < (d.list.length : Int) + moreI mo
              · have HD := hd (show d.refDone m x (L, dn, mo) = (d, {}) by unfold AccS.refDone; rw [if_pos ⟨hb, hf⟩])
                generalize (if dn = true then L else L ++ [x]) = F at *
                have hb' : decide (d.base < m.slot) = true := decide_eq_true hb
                have hf' : decide (64 < (d.list.length : Int) + moreI mo) = true := decide_eq_true hf
                go_wp2_with fail
                rw [HP.out, HD.out]
                refine bodyPost_ret (v := .tuple #[.agg #[.bool d.wit, .int .u64 d.bal.c, .int .i64 d.bal.n, .int .i64 d.base, .slice a d.list.length cap, .int .i64 d.node, .int .i64 d.til], .agg #[.int .i64 0, .int .i64 0, .int .i64 0, .int .i64 0, .int .u64 0, .int .i64 0, .int .i64 0, .int .i64 0, .bool false, .string ⟨#[]⟩, .slice none 0 0]]) (by simp [results, Try.results52, go_sem, hcc, hdc]) rfl ?_
                have hx := Upd.refl [w.heap.size + 1 + 1, w.heap.size + 1 + 1 + 1] wc
                refine ⟨.slice a d.list.length cap, rfl, HUF.out.trans' (L := []) (M := [w.heap.size + 1 + 1, w.heap.size + 1 + 1 + 1]) (by repeat (first | with_reducible exact hx | with_reducible exact Upd.refl _ _ | with_reducible refine Upd.alloc ?_ _ | with_reducible refine Upd.drew ?_ | with_reducible refine Upd.setCell ?_ (by first | (simp; done) | (simp; omega)) _)) (by intro i hi; simp at hi; omega), own_upd (L := [w.heap.size + 1 + 1, w.heap.size + 1 + 1 + 1]) HRF.out.row (by repeat (first | with_reducible exact hx | with_reducible exact Upd.refl _ _ | with_reducible refine Upd.alloc ?_ _ | with_reducible refine Upd.drew ?_ | with_reducible refine Upd.setCell ?_ (by first | (simp; done) | (simp; omega)) _)) (fun q hq => ?_)⟩
                have h2 := HRL.out q hq
                simp only [List.mem_cons, List.not_mem_nil, or_false]
                omega
              · have HD := hd (show d.refDone m x (L, dn, mo) = ({ d with bal := m.bal, list := if dn = true then L else L ++ [x] }, { kind := 4, bal := m.bal, slot := m.slot }) by unfold AccS.refDone; rw [if_neg (fun h => hf h.2)])
                generalize (if dn = true then L else L ++ [x]) = F at *
                have hb' : decide (d.base < m.slot) = true := decide_eq_true hb
                have hf' : decide (64 < (d.list.length : Int) + moreI mo) = false := decide_eq_false hf
                go_wp2_with fail
                go_region
                go_wp2_with fail
                rw [HP.out, HD.out]
                refine bodyPost_ret (v := .tuple #[.agg #[.bool d.wit, .int .u64 m.bal.c, .int .i64 m.bal.n, .int .i64 d.base, .slice xa F.length xc, .int .i64 d.node, .int .i64 d.til], .agg #[.int .i64 4, .int .i64 0, .int .i64 0, .int .i64 0, .int .u64 m.bal.c, .int .i64 m.bal.n, .int .i64 m.slot, .int .i64 0, .bool false, .string ⟨#[]⟩, .slice none 0 0]]) (by simp [results, Try.results52, go_sem, hcc, hdc]) rfl ?_
                have hx := Upd.refl [w.heap.size, w.heap.size + 1 + 1, w.heap.size + 1 + 1 + 1] wc
                refine ⟨.slice xa F.length xc, rfl, HUF.out.trans' (L := []) (M := [w.heap.size, w.heap.size + 1 + 1, w.heap.size + 1 + 1 + 1]) (by repeat (first | with_reducible exact hx | with_reducible exact Upd.refl _ _ | with_reducible refine Upd.alloc ?_ _ | with_reducible refine Upd.drew ?_ | with_reducible refine Upd.setCell ?_ (by first | (simp; done) | (simp; omega)) _)) (by intro i hi; simp at hi; omega), own_mono (own_upd (L := [w.heap.size, w.heap.size + 1 + 1, w.heap.size + 1 + 1 + 1]) HOF.out (by repeat (first | with_reducible exact hx | with_reducible exact Upd.refl _ _ | with_reducible refine Upd.alloc ?_ _ | with_reducible refine Upd.drew ?_ | with_reducible refine Upd.setCell ?_ (by first | (simp; done) | (simp; omega)) _)) (fun q hq => ?_)) HBW.out⟩
                have h1 := own_ne_any HOF.out HRF.out.s (by decide) q hq
                have h2 := own_ne_any HOF.out HRF.out.z (by decide) q hq
                have h3 := own_ne_any HOF.out HRF.out.y (by decide) q hq
                simp only [List.mem_cons, List.not_mem_nil, or_false]
                omega
            · have HD := hd (show d.refDone m x (L, dn, mo) = ({ d with bal := m.bal, list := if dn = true then L else L ++ [x] }, { kind := 4, bal := m.bal, slot := m.slot }) by unfold AccS.refDone; rw [if_neg (fun h => hb h.1)])
              generalize (if dn = true then L else L ++ [x]) = F at *
              have hb' : decide (d.base < m.slot) = false := decide_eq_false hb
              go_wp2_with fail
              go_region
              go_wp2_with fail
              rw [HP.out, HD.out]
              refine bodyPost_ret (v := .tuple #[.agg #[.bool d.wit, .int .u64 m.bal.c, .int .i64 m.bal.n, .int .i64 d.base, .slice xa F.length xc, .int .i64 d.node, .int .i64 d.til], .agg #[.int .i64 4, .int .i64 0, .int .i64 0, .int .i64 0, .int .u64 m.bal.c, .int .i64 m.bal.n, .int .i64 m.slot, .int .i64 0, .bool false, .string ⟨#[]⟩, .slice none 0 0]]) (by simp [results, Try.results52, go_sem, hcc, hdc]) rfl ?_
              have hx := Upd.refl [w.heap.size, w.heap.size + 1 + 1, w.heap.size + 1 + 1 + 1] wc
              refine ⟨.slice xa F.length xc, rfl, HUF.out.trans' (L := []) (M := [w.heap.size, w.heap.size + 1 + 1, w.heap.size + 1 + 1 + 1]) (by repeat (first | with_reducible exact hx | with_reducible exact Upd.refl _ _ | with_reducible refine Upd.alloc ?_ _ | with_reducible refine Upd.drew ?_ | with_reducible refine Upd.setCell ?_ (by first | (simp; done) | (simp; omega)) _)) (by intro i hi; simp at hi; omega), own_mono (own_upd (L := [w.heap.size, w.heap.size + 1 + 1, w.heap.size + 1 + 1 + 1]) HOF.out (by repeat (first | with_reducible exact hx | with_reducible exact Upd.refl _ _ | with_reducible refine Upd.alloc ?_ _ | with_reducible refine Upd.drew ?_ | with_reducible refine Upd.setCell ?_ (by first | (simp; done) | (simp; omega)) _)) (fun q hq => ?_)) HBW.out⟩
              have h1 := own_ne_any HOF.out HRF.out.s (by decide) q hq
              have h2 := own_ne_any HOF.out HRF.out.z (by decide) q hq
              have h3 := own_ne_any HOF.out HRF.out.y (by decide) q hq
              simp only [List.mem_cons, List.not_mem_nil, or_false]
              omega
end Go.Proofs.Ytfhmdeamhmjddaa
