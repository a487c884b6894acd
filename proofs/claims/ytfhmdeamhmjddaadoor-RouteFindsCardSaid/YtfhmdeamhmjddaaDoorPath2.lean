/-
  path.Made, Parse, Text, Parts, Depth, walked. Conditions: texts of sizes that there are; the library's variables hold what they are laid to hold.
-/
import Derived.Test.YtfhmdeamhmjddaaDoorPath1
set_option linter.unusedVariables false
set_option linter.unusedSimpArgs false
set_option maxRecDepth 100000
namespace Go.Proofs.YtfhmdeamhmjddaaDoor
open Go.RowKit

theorem text_app (a b : List (List UInt8)) : textL (a ++ b) = textL a ++ textL b := by
  induction a with
  | nil => rfl
  | cons x a ih => simp [textL, ih]
theorem text_small {l : List (List UInt8)} (h : ∀ x ∈ l, x.length ≤ 16) : (textL l).length ≤ 17 * l.length := by
  induction l with
  | nil => simp [textL]
  | cons x l ih =>
    have h1 := h x (by simp)
    have h2 := ih (fun y hy => h y (by simp [hy]))
    simp only [textL, List.cons_append, List.length_cons, List.length_append]
    omega
theorem part_short {x : List UInt8} (h : partL x = true) : x.length ≤ 16 ∧ x ≠ [] ∧ (47 : UInt8) ∉ x := by
  unfold partL at h
  simp only [Bool.and_eq_true, decide_eq_true_eq] at h
  obtain ⟨h1, h2, h3⟩ := h
  refine ⟨h3, h2, fun hm => ?_⟩
  have := List.all_eq_true.1 h1 47 hm
  exact absurd this (by decide)
theorem results_path (fn : Func) (hr : fn.results = #[.cell 2 24, .tmp 3]) (tmps : Array Value) (W : World) (k : Nat) (x : Value) (ht : tmps[2]? = some (.pointer (some ⟨k, 0, none⟩))) (h : Blk W k #[x] 24) :
    (results fn tmps).run Tryd.prog W = .ok (.tuple #[.agg #[x], tmps.getD 3 undef]) W := by
  have c0 := h.cell 0
  simp at c0
  have hl : (loadVar 24 ⟨k, 0, none⟩).run Tryd.prog W = .ok (.agg #[x]) W := by
    go_simp
  simp [results, hr, ht, asAddr, hl]
def made5 (l : List (List UInt8)) : Option (List (List UInt8)) := if madeL l then some l else none
/-- What Made and Parse answer. -/
def Answer (w : World) (v ev : Value) (o : Option (List (List UInt8))) : Prop :=
  match o with
  | some l => v = .agg #[.string (txt (textL l))] ∧ ev = .nilIface
  | none => v = .agg #[.string (txt [])] ∧ ErrAt w ev noPath

set_option maxHeartbeats 4000000 in
theorem pmade_any (l : List (List UInt8)) (v : Value) (w : World) (hD : Door w) (hv : TxsAt w v l) (hl : ∀ x ∈ l, x.length ≤ 9223372036854775807) :
    Calls Tryd.prog 33 #[v] w fun e w' => ∃ p ev, e = .returned (.tuple #[p, ev]) ∧ Upd [] w w' ∧ Answer w' p ev (made5 l) := by
  have HD := hd hD
  have HV := hd hv
  have HW := hd (fun W (h : Door W) => pwrong_any W h)
  obtain ⟨a, c, rfl, hc, hm, -⟩ := hv
  have hb0 := Blk.new w #[.string ⟨#[]⟩] 24
  have e0 : ∃ W k, w.heap.size = k ∧ w.alloc (.cells #[.string ⟨#[]⟩] 24) = W ∧ Upd [] w W ∧ Blk W k #[.string ⟨#[]⟩] 24 := ⟨_, _, rfl, rfl, (Upd.refl _ _).alloc _, hb0⟩
  clear hD hb0
  go_enter Tryd.func33, Tryd.ntmps33
  go_upto_region 1 with fail
  obtain ⟨W0, k, hk, hW0, hu0, hb0⟩ := e0
  rw [hW0, hk]
  have HK := hd hk
  have HU0 := hd hu0
  have HB0 := hd hb0
  clear hW0 hk hu0 hb0
  by_cases h6 : 6 < l.length
  · have h6' : (6 : Int) < (l.length : Int) := by omega
    have HM := hd (show made5 l = none by unfold made5 madeL; rw [show decide (l.length ≤ 6) = false by simpa using h6]; simp)
    go_wp2_with fail
    refine (HW.out _ (HD.out.later HU0.out)).mono ?_
    rintro e w1 ⟨ev, rfl, hu1, hev⟩
    have hb1 := HB0.out.upd hu1 (by simp)
    have hbz := hb1.frozen
    have hbc := hb1.cell
    have HB2 := hd (hb1.set 0 (.string ⟨#[]⟩))
    have HU1 := hd hu1
    have HEV := hd hev
    have HKL := hd (show w.heap.size ≤ k by have := HK.out; omega)
    have hne := hb1
    have hu2 : Upd [k] w1 (w1.setCell ⟨k, 0, none⟩ (.string ⟨#[]⟩)) := (Upd.refl _ _).setCell (by simp) _
    have HU2 := hd hu2
    have HB1 := hd hb1
    clear hb1 hu1 hev hu2 hne
    go_wp2_with fail
    refine bodyPost_ret (results_path _ rfl _ _ k _ rfl HB2.out) rfl ?_
    refine ⟨_, _, rfl, (HU0.out.trans HU1.out).trans' HU2.out (by intro i hi; have := HKL.out; simp only [List.mem_cons, List.not_mem_nil, or_false] at hi; omega), ?_⟩
    rw [HM.out]
    exact ⟨rfl, HEV.out.keep HU2.out (fun q c hb hm => by
      simp only [List.mem_cons, List.not_mem_nil, or_false] at hm
      exact blk_ne hb HB1.out (by decide) hm)⟩
  · have h6' : ¬ (6 : Int) < (l.length : Int) := by omega
    have HKL := hd (show w.heap.size ≤ k by have := HK.out; omega)
    go_wp2_with fail
    go_loopw [4, 14] (fun s4 s14 wr => ∃ t : Nat, s14 = .int .i64 t ∧ t ≤ l.length ∧ s4 = .string (txt (textL (l.take t))) ∧ (∀ x ∈ l.take t, partL x = true) ∧ Upd [] w wr ∧ Upd [] W0 wr) (fun _ s14 _ => l.length - (intOf s14).toNat)
    case atStart => exact ⟨0, rfl, by omega, rfl, by simp, HU0.out, Upd.refl _ _⟩
    case round =>
      obtain ⟨t, rfl, ht, rfl, hall, hu, huv⟩ := hrel
      have HU := hd hu
      have HUV := hd huv
      have HALL := hd hall
      clear hu huv hall
      by_cases htn : t < l.length
      · have htn' : (t : Int) < (l.length : Int) := by omega
        obtain ⟨a', c', e, q1, q2, q3⟩ := HV.out
        simp only [Value.slice.injEq] at e
        obtain ⟨rfl, -, rfl⟩ := e
        obtain ⟨kl, ol, rfl, hkl, hcl⟩ := q3 (by omega)
        have hc0 : wr.cell? ⟨kl, ol + t, none⟩ = some (.string (txt l[t])) := by rw [← hcl t htn]; exact World.cell?_of_block (HU.out.block kl hkl (by simp))
        have hx := hl l[t] (List.getElem_mem _)
        have HP := hd (fun W => ppart_any l[t] W hx)
        have HT := hd (show textL (l.take (t + 1)) = textL (l.take t) ++ (47 :: l[t]) by rw [List.take_succ_eq_append_getElem htn, text_app]; simp [textL])
        have HIN := hd (show ∀ y ∈ l.take (t + 1), y ∈ l.take t ∨ y = l[t] by
          intro y hy
          rw [List.take_succ_eq_append_getElem htn] at hy
          rcases List.mem_append.1 hy with h | h
          · exact .inl h
          · exact .inr (List.mem_singleton.1 h))
        have HMF := hd (show partL l[t] = false → made5 l = none from fun h => by
          unfold made5 madeL
          have : l.all partL = false := List.all_eq_false.2 ⟨l[t], List.getElem_mem _, by rw [h]; decide⟩
          rw [this]; rfl)
        have hsm := text_small (l := l.take t) (fun x hx => (part_short (HALL.out x hx)).1)
        rw [List.length_take, Nat.min_eq_left ht] at hsm
        clear hcl q3
        generalize textL (l.take t) = T0 at *
        generalize l[t] = x at *
        rcases hp : partL x with _ | _
        · rw [hp] at HP
          have HM := hd (HMF.out hp)
          clear hp HMF
          go_wp2_with fail
          refine (HP.out _).mono ?_
          rintro e w1 ⟨rfl, rfl⟩
          go_wp2_with fail
          refine (HW.out _ (HD.out.later HU.out)).mono ?_
          rintro e w1 ⟨ev, rfl, hu1, hev⟩
          have hb1 := (HB0.out.upd HUV.out (by simp)).upd hu1 (by simp)
          have hbz := hb1.frozen
          have hbc := hb1.cell
          have HB2 := hd (hb1.set 0 (.string ⟨#[]⟩))
          have HU1 := hd hu1
          have HEV := hd hev
          have hu2 : Upd [k] w1 (w1.setCell ⟨k, 0, none⟩ (.string ⟨#[]⟩)) := (Upd.refl _ _).setCell (by simp) _
          have HU2 := hd hu2
          have HB1 := hd hb1
          clear hb1 hu1 hev hu2
          go_wp2_with fail
          refine bodyPost_ret (results_path _ rfl _ _ k _ rfl HB2.out) rfl ?_
          refine ⟨_, _, rfl, (HU.out.trans HU1.out).trans' HU2.out (by intro i hi; have := HKL.out; simp only [List.mem_cons, List.not_mem_nil, or_false] at hi; omega), ?_⟩
          rw [HM.out]
          exact ⟨rfl, HEV.out.keep HU2.out (fun q c hb hm => by
            simp only [List.mem_cons, List.not_mem_nil, or_false] at hm
            exact blk_ne hb HB1.out (by decide) hm)⟩
        · rw [hp] at HP
          have HPT := hd hp
          have hps := (part_short hp).1
          clear hp HMF
          have hs1 := add_txt' [47] x (by simp; omega)
          have hs2 := add_txt' T0 (47 :: x) (by simp; omega)
          rw [show txt [47] = ⟨#[47]⟩ from rfl, show [47] ++ x = 47 :: x from rfl] at hs1
          go_wp2_with fail
          refine (HP.out _).mono ?_
          rintro e w1 ⟨rfl, rfl⟩
          go_wp2_with fail
          go_roundw
          case rel => exact ⟨t + 1, by go_num, by omega, by rw [HT.out], fun y hy => (HIN.out y hy).elim (HALL.out y) (fun e => e ▸ HPT.out), HU.out, HUV.out⟩
          case measure => simp [intOf]; omega
      · have htl : l.take t = l := List.take_of_length_le (by omega)
        rw [htl] at HALL ⊢
        have HM := hd (show made5 l = some l by
          unfold made5 madeL
          rw [List.all_eq_true.2 HALL.out, show decide (l.length ≤ 6) = true by simp; omega]
          rfl)
        have hb1 := HB0.out.upd HUV.out (by simp)
        have hbz := hb1.frozen
        have hbc := hb1.cell
        have HB2 := hd (hb1.set 0 (.string (txt (textL l))))
        have hu2 : Upd [k] wr (wr.setCell ⟨k, 0, none⟩ (.string (txt (textL l)))) := (Upd.refl _ _).setCell (by simp) _
        have HU2 := hd hu2
        clear hb1 hu2 htl
        go_wp2_with fail
        refine bodyPost_ret (results_path _ rfl _ _ k _ rfl HB2.out) rfl ?_
        refine ⟨_, _, rfl, HU.out.trans' HU2.out (by intro i hi; have := HKL.out; simp only [List.mem_cons, List.not_mem_nil, or_false] at hi; omega), ?_⟩
        rw [HM.out]
        exact ⟨rfl, rfl⟩
end Go.Proofs.YtfhmdeamhmjddaaDoor
