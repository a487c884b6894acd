/-
  The document's acceptor (chatelaineref16): an append to its list of entries, and Prepare, walked. Conditions: numbers that there may be, a list of entries that lies in a row of its own.
-/
import Derived.Test.YtfhmdeamhmjddaaBm9
import Derived.Test.YtfhmdeamhmjddaaBm11
import Derived.Deep.Cut
import Derived.Deep.CutRange
import Derived.Deep.CutBlock
set_option linter.unusedVariables false
set_option linter.unusedSimpArgs false
set_option maxRecDepth 100000
namespace Go.Proofs.Ytfhmdeamhmjddaa
open Go.RowKit

theorem blk_own {w w' : World} {k T B E sz : Nat} {c : Array Value} {v : Value} {n : Nat} {xs : List Value} (hb : Blk w k c T) (hu : Upd v.ownBlock.toList w w') (ho : w.ownsRow B E sz v n xs) (hT : E ≠ T) : Blk w' k c T :=
  hb.upd hu (fun hm => own_ne_any ho hb hT _ (by simpa using hm) rfl)

/-- One entry appended to the document's list. -/
theorem refAppend {ops : Array Oper} {rest : List Oper} {o : Oper} {a : Act} {w : World} {Q : Exit → Act → World → Prop} (hgd : o.guard = none) (s x : Operand)
    (ho : o.op = .call { callee := .builtin .append, args := #[s, x], argTypes := #[52, 52] })
    (B : Nat) (v : Value) (l : List EntS) (e : EntS) (hs : a.eval s = v) (hown : RefRow B w v l) (k : Nat) (hx : a.eval x = .slice (some ⟨k, 0, none⟩) 1 1) (hb : Blk w k e.cells.toArray 102)
    (hl : l.length ≤ 100000) (hB : B ≤ w.heap.size)
    (h : ∀ v' w', RefRow B w' v' (l ++ [e]) → Upd v.ownBlock.toList w w' → (v'.ownBlock = v.ownBlock ∨ v'.ownBlock = some w.heap.size) → wpList Try.prog ops Q rest (a.put o.dst v') w') : wpList Try.prog ops Q (o :: rest) a w := by
  obtain ⟨i0, hinf, hz0, hz1, hz2⟩ := info_parts Try.infoRefEnt
  refine wpList_append_own_at w hgd s x 52 ho B 102 i0 _ 4 40 Try.underlying52 hinf hz0 hz1 hz2 rfl (by decide) v l.length (entCells l) hs hown ⟨k, 0, none⟩ 1 1 e.cells hx rfl (fun j u hj => by rw [Addr.add_lit, Nat.zero_add, Blk.cell hb j]; simpa using hj)
    (by intro u hu; simp only [EntS.cells, List.mem_cons, List.not_mem_nil, or_false] at hu; rcases hu with rfl | rfl | rfl | rfl <;> rfl) (by unfold maxLen; omega) (by omega) hB ?_
  intro v' w' hown' hgr _ hat
  refine h v' w' ?_ (Upd.of_grown hgr) hat
  unfold RefRow
  rw [List.length_append]
  have e3 : entCells (l ++ [e]) = entCells l ++ e.cells := by simp [entCells]
  rw [e3]
  exact hown'

set_option maxHeartbeats 8000000 in
theorem refPrepare_any (B : Nat) (d : AccS) (l : Value) (m : MsgS) (ma : Option Addr) (mn mc : Nat) (now : Int) (w : World) (h : RefRow B w l d.list) (hf : d.fine) (hfr : TimeIn m.frm) (hnow : TimeIn now) :
    Calls Try.prog 51 #[.agg (d.cells l), m.val (.slice ma mn mc), .int .i64 now] w fun e w' =>
      ∃ v', e = .returned (.tuple #[.agg ((d.prepare m now).1.cells l), (d.prepare m now).2.1.val v']) ∧ Upd [] w w' ∧ RefRow w.heap.size w' v' (d.prepare m now).2.2.1 := by
  have hf0 := hf
  have ht0 := hf.til0
  have ht1 := hf.til1
  have hn0 := hf.node0
  have hn1 := hf.node1
  have hlen := hf.sorted.len
  obtain ⟨hfr0, hfr1⟩ := hfr
  obtain ⟨hw0, hw1⟩ := hnow
  obtain ⟨a, cap, rfl, hnc, hcm, hac⟩ := own_open2 h
  have e4 := four_new w (d.cells (.slice a d.list.length cap)) (msgC m (.slice ma mn mc)) #[.bool false, .int .u64 0, .int .i64 0, .int .i64 0, .slice none 0 0, .int .i64 0, .int .i64 0] (msgC {} (.slice none 0 0)) 54 93 54 93
  have hab := refAbove_any d.bal m.bal
  have hrf := refRefuse_any d a d.list.length cap
  have hot := refOthers_any d a d.list.length cap m.frm now
  simp only [AccS.cells, msgC, MsgS.val] at e4 hrf hot
  have HVAL := hd (show ∀ x v, MsgS.val x v = .agg (msgC x v) from fun _ _ => rfl)
  rw [show d.cells (.slice a d.list.length cap) = #[.bool d.wit, .int .u64 d.bal.c, .int .i64 d.bal.n, .int .i64 d.base, .slice a d.list.length cap, .int .i64 d.node, .int .i64 d.til] from rfl]
  rw [show m.val (.slice ma mn mc) = .agg #[.int .i64 m.kind, .int .i64 m.frm, .int .i64 m.to, .int .i64 m.sub, .int .u64 m.bal.c, .int .i64 m.bal.n, .int .i64 m.slot, .int .i64 m.time, .bool m.okb, .string m.text, .slice ma mn mc] from rfl]
  have HAB := hd (show ∀ w, Calls Try.prog 76 #[.agg #[.int .u64 d.bal.c, .int .i64 d.bal.n], .agg #[.int .u64 m.bal.c, .int .i64 m.bal.n]] w fun e w' => e = .returned (.bool (d.low m.bal)) ∧ Upd [] w w' from hab)
  have HRF := hd hrf
  have HOT := hd hot
  have H := hd h
  have HFF := hd (filter_from d.list m.slot hf.sorted)
  clear hab hrf hot hf h hf0
  go_enter Try.func51, Try.ntmps51
  go_wp2_with fail
  obtain ⟨W, hW, hu, hA, hB, hC, hD, hsz⟩ := e4
  rw [hW]
  clear hW
  refine (HOT.out W (by omega) (by omega)).mono ?_
  rintro e W1 ⟨rfl, hu1⟩
  have HU1 := hd (hu.trans hu1)
  have HA := hd (hA.upd hu1 (by simp))
  have HB := hd (hB.upd hu1 (by simp))
  have HC := hd (hC.upd hu1 (by simp))
  have HD := hd (hD.upd hu1 (by simp))
  have hs1 := hu1.size
  clear hu hu1 hA hB hC hD
  have hac := HA.out.cell
  have hbc := HB.out.cell
  have hcc := HC.out.cell
  have hcz := HC.out.frozen
  have hdc := HD.out.cell
  have hdz := HD.out.frozen
  have n1 : ¬ (w.heap.size + 1 + 1 = w.heap.size) := by omega
  have n2 : ¬ (w.heap.size = w.heap.size + 1 + 1) := by omega
  have n3 : ¬ (w.heap.size + 1 + 1 + 1 = w.heap.size) := by omega
  have n4 : ¬ (w.heap.size = w.heap.size + 1 + 1 + 1) := by omega
  cases ho : d.others m.frm now
  case true =>
    have hwr : IntKind.i64.wrap (d.til - now) = d.til - now := by rw [IntKind.wrap_i64]; omega
    have HP := hd (show d.prepare m now = (d, { kind := 5, bal := d.bal, time := d.til - now }, [], false) by unfold AccS.prepare; rw [if_pos ho])
    go_wp2_with fail
    go_region_held3 (fun w' => w'.cell? ⟨w.heap.size, 0, none⟩ = some (.bool d.wit) ∧ w'.cell? ⟨w.heap.size, 1, none⟩ = some (.int .u64 d.bal.c) ∧ w'.cell? ⟨w.heap.size, 2, none⟩ = some (.int .i64 d.bal.n) ∧ w'.cell? ⟨w.heap.size, 3, none⟩ = some (.int .i64 d.base) ∧ w'.cell? ⟨w.heap.size, 4, none⟩ = some (.slice a d.list.length cap) ∧ w'.cell? ⟨w.heap.size, 5, none⟩ = some (.int .i64 d.node) ∧ w'.cell? ⟨w.heap.size, 6, none⟩ = some (.int .i64 d.til)) (go_keep)
      (first | ((with_reducible refine (HRF.out _ _).mono ?_); rintro e w2 ⟨rfl, hu2⟩; have hu3 := Upd.trans (Upd.refl [] W1).drew hu2; have k1 := (HA.out.upd hu3 (by simp)).cell; have k2 := (HC.out.upd hu3 (by simp)).cell; have k3 := (HC.out.upd hu3 (by simp)).frozen; have k4 := (HD.out.upd hu3 (by simp)).cell; have k5 := (HD.out.upd hu3 (by simp)).frozen; have HU3 := hd (HU1.out.trans hu3); clear hu2 hu3))
    go_wp2_with fail
    have hx := HU3.out
    refine bodyPost_ret (v := .tuple #[.agg #[.bool d.wit, .int .u64 d.bal.c, .int .i64 d.bal.n, .int .i64 d.base, .slice a d.list.length cap, .int .i64 d.node, .int .i64 d.til], .agg #[.int .i64 5, .int .i64 0, .int .i64 0, .int .i64 0, .int .u64 d.bal.c, .int .i64 d.bal.n, .int .i64 0, .int .i64 (d.til - now), .bool false, .string ⟨#[]⟩, .slice none 0 0]]) (by simp [results, Try.results51, go_sem, k2, k4]) rfl ?_
    rw [HP.out]
    exact ⟨.slice none 0 0, rfl, (by repeat (first | with_reducible exact hx | with_reducible exact Upd.refl _ _ | with_reducible refine Upd.alloc ?_ _ | with_reducible refine Upd.drew ?_ | with_reducible refine Upd.setCell ?_ (by first | (simp; done) | (simp; omega)) _)), World.ownsRow_nil _ _ _ _⟩
  case false =>
    go_wp2_with fail
    refine (HAB.out W1).mono ?_
    rintro e W2 ⟨rfl, hu2⟩
    have HU2 := hd (HU1.out.trans hu2)
    have HA2 := hd (HA.out.upd hu2 (by simp))
    have HB2 := hd (HB.out.upd hu2 (by simp))
    have HC2 := hd (HC.out.upd hu2 (by simp))
    have HD2 := hd (HD.out.upd hu2 (by simp))
    clear hac hbc hcc hcz hdc hdz HA HB HC HD HU1 hu2
    have hac := HA2.out.cell
    have hbc := HB2.out.cell
    have hcc := HC2.out.cell
    have hcz := HC2.out.frozen
    have hdc := HD2.out.cell
    have hdz := HD2.out.frozen
    cases hl : d.low m.bal
    case true =>
      have HP := hd (show d.prepare m now = (d, { kind := 5, bal := d.bal }, [], false) by unfold AccS.prepare; rw [if_neg (by simp [ho]), if_pos hl])
      go_wp2_with fail
      go_region_held3 (fun w' => w'.cell? ⟨w.heap.size, 0, none⟩ = some (.bool d.wit) ∧ w'.cell? ⟨w.heap.size, 1, none⟩ = some (.int .u64 d.bal.c) ∧ w'.cell? ⟨w.heap.size, 2, none⟩ = some (.int .i64 d.bal.n) ∧ w'.cell? ⟨w.heap.size, 3, none⟩ = some (.int .i64 d.base) ∧ w'.cell? ⟨w.heap.size, 4, none⟩ = some (.slice a d.list.length cap) ∧ w'.cell? ⟨w.heap.size, 5, none⟩ = some (.int .i64 d.node) ∧ w'.cell? ⟨w.heap.size, 6, none⟩ = some (.int .i64 d.til)) (go_keep)
        (first | ((with_reducible refine (HRF.out _ _).mono ?_); rintro e w2 ⟨rfl, hu2⟩; have hu3 := Upd.trans (Upd.refl [] W2).drew hu2; have k1 := (HA2.out.upd hu3 (by simp)).cell; have k2 := (HC2.out.upd hu3 (by simp)).cell; have k3 := (HC2.out.upd hu3 (by simp)).frozen; have k4 := (HD2.out.upd hu3 (by simp)).cell; have k5 := (HD2.out.upd hu3 (by simp)).frozen; have HU3 := hd (HU2.out.trans hu3); clear hu2 hu3))
      go_wp2_with fail
      have hx := HU3.out
      refine bodyPost_ret (v := .tuple #[.agg #[.bool d.wit, .int .u64 d.bal.c, .int .i64 d.bal.n, .int .i64 d.base, .slice a d.list.length cap, .int .i64 d.node, .int .i64 d.til], .agg #[.int .i64 5, .int .i64 0, .int .i64 0, .int .i64 0, .int .u64 d.bal.c, .int .i64 d.bal.n, .int .i64 0, .int .i64 0, .bool false, .string ⟨#[]⟩, .slice none 0 0]]) (by simp [results, Try.results51, go_sem, k2, k4]) rfl ?_
      rw [HP.out]
      exact ⟨.slice none 0 0, rfl, (by repeat (first | with_reducible exact hx | with_reducible exact Upd.refl _ _ | with_reducible refine Upd.alloc ?_ _ | with_reducible refine Upd.drew ?_ | with_reducible refine Upd.setCell ?_ (by first | (simp; done) | (simp; omega)) _)), World.ownsRow_nil _ _ _ _⟩
    case false =>
      have HP := hd (show d.prepare m now = ({ d with bal := m.bal }, { kind := 2, bal := m.bal, slot := d.base }, d.list.drop (aheadOf d.list m.slot), !(d.bal.c == m.bal.c && d.bal.n == m.bal.n)) by unfold AccS.prepare; rw [if_neg (by simp [ho]), if_neg (by simp [hl])])
      have haz := HA2.out.frozen
      have n5 : ¬ (w.heap.size + 1 = w.heap.size) := by omega
      have hsz2 := HD2.out.lt
      have hszA : w.heap.size < W2.heap.size := by omega
      have hszB : ¬ (w.heap.size = W2.heap.size) := by omega
      have HS := hd (show Blk (((W2.setCell ⟨w.heap.size, 1, none⟩ (.int .u64 m.bal.c)).setCell ⟨w.heap.size, 2, none⟩ (.int .i64 m.bal.n)).alloc (.cells #[] 102)) w.heap.size #[.bool d.wit, .int .u64 m.bal.c, .int .i64 m.bal.n, .int .i64 d.base, .slice a d.list.length cap, .int .i64 d.node, .int .i64 d.til] 54 from ((HA2.out.set 1 _).set 2 _).alloc _)
      have hxx := HU2.out
      go_upto_region 7 with fail
      have hW3 : ∃ W3, ((W2.setCell ⟨w.heap.size, 1, none⟩ (.int .u64 m.bal.c)).setCell ⟨w.heap.size, 2, none⟩ (.int .i64 m.bal.n)).alloc (.cells #[] 102) = W3 ∧ Upd [] w W3 ∧ Blk W3 (w.heap.size + 1) #[.int .i64 m.kind, .int .i64 m.frm, .int .i64 m.to, .int .i64 m.sub, .int .u64 m.bal.c, .int .i64 m.bal.n, .int .i64 m.slot, .int .i64 m.time, .bool m.okb, .string m.text, .slice ma mn mc] 93 ∧
          Blk W3 (w.heap.size + 1 + 1) #[.bool false, .int .u64 0, .int .i64 0, .int .i64 0, .slice none 0 0, .int .i64 0, .int .i64 0] 54 ∧ Blk W3 (w.heap.size + 1 + 1 + 1) #[.int .i64 0, .int .i64 0, .int .i64 0, .int .i64 0, .int .u64 0, .int .i64 0, .int .i64 0, .int .i64 0, .bool false, .string ⟨#[]⟩, .slice none 0 0] 93 ∧
          RefRow w.heap.size W3 (.slice (some ⟨W2.heap.size, 0, none⟩) 0 0) [] :=
        ⟨_, rfl, (by repeat (first | with_reducible exact hxx | with_reducible exact Upd.refl _ _ | with_reducible refine Upd.alloc ?_ _ | with_reducible refine Upd.drew ?_ | with_reducible refine Upd.setCell ?_ (by first | (simp; done) | (simp; omega)) _)), ((HB2.out.set_other (by dsimp only; omega) _).set_other (by dsimp only; omega) _).alloc _, ((HC2.out.set_other (by dsimp only; omega) _).set_other (by dsimp only; omega) _).alloc _, ((HD2.out.set_other (by dsimp only; omega) _).set_other (by dsimp only; omega) _).alloc _,
          ⟨rfl, .inr ⟨W2.heap.size, 0, #[], rfl, by omega, Blk.new' _ _ _ (by simp), by simp, by unfold maxLen; omega, rfl, rfl⟩⟩⟩
      obtain ⟨W3, hW3, hu3, hB3, hC3, hD3, ho3⟩ := hW3
      have hA3 := HS.out
      rw [hW3] at hA3 ⊢
      clear hW3 HS hxx hac hbc hcc hcz hdc hdz haz HA2 HB2 HC2 HD2 HU2
      have HU3 := hd hu3
      have HA3 := hd hA3
      have HB3 := hd hB3
      have HC3 := hd hC3
      have HD3 := hd hD3
      have HO3 := hd ho3
      have hac := HA3.out.cell
      clear hu3 hA3 hB3 hC3 hD3 ho3
      go_wp2_with fail
      go_loopw [8, 38] (fun s8 c wr => ∃ t : Nat, c = .int .i64 t ∧ t ≤ d.list.length ∧ Upd [] w wr ∧ RefRow w.heap.size wr s8 ((d.list.take t).filter (fromSlot m.slot)) ∧
        Blk wr w.heap.size #[.bool d.wit, .int .u64 m.bal.c, .int .i64 m.bal.n, .int .i64 d.base, .slice a d.list.length cap, .int .i64 d.node, .int .i64 d.til] 54 ∧
        Blk wr (w.heap.size + 1) #[.int .i64 m.kind, .int .i64 m.frm, .int .i64 m.to, .int .i64 m.sub, .int .u64 m.bal.c, .int .i64 m.bal.n, .int .i64 m.slot, .int .i64 m.time, .bool m.okb, .string m.text, .slice ma mn mc] 93 ∧
        Blk wr (w.heap.size + 1 + 1) #[.bool false, .int .u64 0, .int .i64 0, .int .i64 0, .slice none 0 0, .int .i64 0, .int .i64 0] 54 ∧
        Blk wr (w.heap.size + 1 + 1 + 1) #[.int .i64 0, .int .i64 0, .int .i64 0, .int .i64 0, .int .u64 0, .int .i64 0, .int .i64 0, .int .i64 0, .bool false, .string ⟨#[]⟩, .slice none 0 0] 93) (fun _ c _ => d.list.length - (intOf c).toNat)
      case atStart => exact ⟨0, rfl, by omega, HU3.out, HO3.out, HA3.out, HB3.out, HC3.out, HD3.out⟩
      case round =>
        clear HA3 HB3 HC3 HD3 HO3 HU3 hac
        obtain ⟨t, rfl, ht, hu, hown, hA, hB, hC, hD⟩ := hrel
        have HU := hd hu
        have HO := hd hown
        have HA := hd hA
        have HB := hd hB
        have HC := hd hC
        have HD := hd hD
        have HR := hd (own_upd H.out hu (by simp))
        have hlw := hD.lt
        have hlw0 : w.heap.size < wr.heap.size := by omega
        have hlw1 : w.heap.size + 1 < wr.heap.size := by omega
        have hbc := hB.cell
        by_cases htl : t < d.list.length
        · obtain ⟨g, cap', hge, hgB, hgl, -, hgc, hgz⟩ := own_cases HR.out (by omega)
          simp only [Value.slice.injEq] at hge
          obtain ⟨rfl, -, rfl⟩ := hge
          obtain ⟨c0, c1, c2, c3⟩ := row_cells hgc t htl
          have htl' : (t : Int) < (d.list.length : Int) := by omega
          have HK := hd (show fromSlot m.slot d.list[t] = decide (m.slot ≤ d.list[t].slot) from rfl)
          have HTK := hd (show (d.list.take (t + 1)).filter (fromSlot m.slot) = (d.list.take t).filter (fromSlot m.slot) ++ (if fromSlot m.slot d.list[t] = true then [d.list[t]] else []) by
            rw [List.take_succ_eq_append_getElem htl, List.filter_append]
            by_cases hk : fromSlot m.slot d.list[t] = true <;> simp [hk])
          have hflen : ((d.list.take t).filter (fromSlot m.slot)).length ≤ t := by
            have := List.length_filter_le (fromSlot m.slot) (d.list.take t)
            rw [List.length_take] at this
            omega
          clear hgc hu hown hA hB hC hD
          generalize d.list[t]'_ = e at *
          generalize (d.list.take t).filter (fromSlot m.slot) = fl at *
          obtain ⟨s, ⟨c, kk⟩, tx⟩ := e
          simp only at c0 c1 c2 c3 HK
          by_cases hsb : m.slot ≤ s
          · have hsb' : decide (m.slot ≤ s) = true := decide_eq_true hsb
            go_wp2_with (at_builtin; refine refAppend rfl (.tmp 47) (.tmp 49) rfl w.heap.size _ fl ⟨s, ⟨c, kk⟩, tx⟩ rfl (own_upd (L := []) HO.out (((Upd.refl _ _).alloc _).alloc _) (by simp)) (wr.heap.size + 1) rfl (Blk.new' (wr.alloc _) _ _ (by simp)) (by omega) (by simp; omega) ?_)
            intro v' w' hown' hU' _
            have hw0 := HU.out.size
            have hne : ∀ q, u8.ownBlock = some q → w.heap.size ≤ q := fun q hq => (own_ge HO.out q hq).1
            have HUW := hd ((((HU.out.alloc _).alloc _).trans' hU' (fun q hq => .inr (hne q (by simpa using hq)))))
            have HA' := hd (blk_own ((HA.out.alloc _).alloc _) hU' (own_upd (L := []) HO.out (((Upd.refl _ _).alloc _).alloc _) (by simp)) (by decide))
            have HB' := hd (blk_own ((HB.out.alloc _).alloc _) hU' (own_upd (L := []) HO.out (((Upd.refl _ _).alloc _).alloc _) (by simp)) (by decide))
            have HC' := hd (blk_own ((HC.out.alloc _).alloc _) hU' (own_upd (L := []) HO.out (((Upd.refl _ _).alloc _).alloc _) (by simp)) (by decide))
            have HD' := hd (blk_own ((HD.out.alloc _).alloc _) hU' (own_upd (L := []) HO.out (((Upd.refl _ _).alloc _).alloc _) (by simp)) (by decide))
            have HOW := hd hown'
            clear hown' hU'
            go_wp2_with fail
            go_roundw
            case rel =>
              refine ⟨t + 1, by go_num, by omega, HUW.out, ?_, HA'.out, HB'.out, HC'.out, HD'.out⟩
              rw [HTK.out, if_pos (by rw [HK.out]; simpa using hsb)]
              exact HOW.out
            case measure => simp [intOf]; omega
          · have hsb' : decide (m.slot ≤ s) = false := decide_eq_false hsb
            go_wp2_with fail
            go_roundw
            case rel =>
              refine ⟨t + 1, by go_num, by omega, HU.out.alloc _, ?_, HA.out.alloc _, HB.out.alloc _, HC.out.alloc _, HD.out.alloc _⟩
              rw [HTK.out, if_neg (by rw [HK.out]; simp; omega), List.append_nil]
              exact own_upd (L := []) HO.out ((Upd.refl _ _).alloc _) (by simp)
            case measure => simp [intOf]; omega
        · obtain rfl : t = d.list.length := by omega
          rw [List.take_length, HFF.out] at hown
          obtain ⟨xa, xc, rfl, -⟩ := own_open hown
          have HO' := hd hown
          have hac := hA.cell
          have hcc := hC.cell
          have hcz := hC.frozen
          have hdc := hD.cell
          have hdz := hD.frozen
          clear hu hown hA hB hC hD HO HR
          go_wp2_with fail
          go_region
          go_wp2_with fail
          rw [HP.out]
          refine bodyPost_ret (v := .tuple #[.agg #[.bool d.wit, .int .u64 m.bal.c, .int .i64 m.bal.n, .int .i64 d.base, .slice a d.list.length cap, .int .i64 d.node, .int .i64 d.til], .agg #[.int .i64 2, .int .i64 0, .int .i64 0, .int .i64 0, .int .u64 m.bal.c, .int .i64 m.bal.n, .int .i64 d.base, .int .i64 0, .bool false, .string ⟨#[]⟩, .slice xa (d.list.drop (aheadOf d.list m.slot)).length xc]]) (by simp [results, Try.results51, go_sem, hcc, hdc]) rfl ?_
          have hx := Upd.refl [w.heap.size + 1 + 1, w.heap.size + 1 + 1 + 1] wr
          refine ⟨.slice xa (d.list.drop (aheadOf d.list m.slot)).length xc, rfl, HU.out.trans' (L := []) (M := [w.heap.size + 1 + 1, w.heap.size + 1 + 1 + 1]) (by repeat (first | with_reducible exact hx | with_reducible exact Upd.refl _ _ | with_reducible refine Upd.alloc ?_ _ | with_reducible refine Upd.drew ?_ | with_reducible refine Upd.setCell ?_ (by first | (simp; done) | (simp; omega)) _)) (by intro i hi; simp at hi; omega), own_upd (L := [w.heap.size + 1 + 1, w.heap.size + 1 + 1 + 1]) HO'.out (by repeat (first | with_reducible exact hx | with_reducible exact Upd.refl _ _ | with_reducible refine Upd.alloc ?_ _ | with_reducible refine Upd.drew ?_ | with_reducible refine Upd.setCell ?_ (by first | (simp; done) | (simp; omega)) _)) (fun q hq => ?_)⟩
          have h1 := own_ne_any HO'.out HC.out (by decide) q hq
          have h2 := own_ne_any HO'.out HD.out (by decide) q hq
          simp only [List.mem_cons, List.not_mem_nil, or_false]
          omega
end Go.Proofs.Ytfhmdeamhmjddaa
