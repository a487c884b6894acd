/-
  What is opened well was a frame; a proper beginning of a file, and a file of which one byte is another one, are bad. Plain laws; no program in sight.
-/
import Derived.Test.YtjaoiaknglnomaaWm10
import Derived.Test.YtjaoiaknglnomaaWm11
set_option linter.unusedVariables false
set_option linter.unusedSimpArgs false
namespace Go.Proofs.Ytjaoiaknglnomaa

theorem body_take (s : List UInt8) (n : Nat) (h4 : 4 ≤ s.length) (hn : numOf ((s.drop 1).take 3) = n) (h2 : n + 8 ≤ s.length) : bodyL (s.headD 0) ((s.drop 4).take n) = s.take (4 + n) := by
  have hl : ((s.drop 4).take n).length = n := by rw [List.length_take, List.length_drop]; omega
  have w3 : wideOf n 3 = (s.drop 1).take 3 := by
    have := wide_numOf ((s.drop 1).take 3)
    rw [hn, show ((s.drop 1).take 3).length = 3 by rw [List.length_take, List.length_drop]; omega] at this
    exact this
  unfold bodyL
  rw [hl, w3]
  cases s with
  | nil => simp at h4
  | cons c r =>
    rw [show 4 + n = (3 + n) + 1 by omega, List.take_succ_cons]
    simp only [List.headD_cons, List.drop_succ_cons, List.drop_zero]
    rw [List.take_add]
theorem sum_take (s : List UInt8) (n : Nat) (h2 : n + 8 ≤ s.length) : wideOf (numOf ((s.drop (4 + n)).take 4)) 4 = (s.drop (4 + n)).take 4 := by
  have := wide_numOf ((s.drop (4 + n)).take 4)
  rw [show ((s.drop (4 + n)).take 4).length = 4 by rw [List.length_take, List.length_drop]; omega] at this
  exact this
theorem openL_inv (s : List UInt8) (k : UInt8) (inn : List UInt8) (h : openL s = (k, inn, 0)) : k ≠ 0 ∧ inn.length ≤ 1048576 ∧ ∃ r, s = frameL k inn ++ r := by
  unfold openL at h
  by_cases h4 : s.length < 4
  · rw [if_pos h4] at h; simp at h
  rw [if_neg h4] at h
  by_cases h0 : s.headD 0 = 0
  · rw [if_pos h0] at h; simp at h
  rw [if_neg h0] at h
  dsimp only at h
  obtain ⟨n, hn⟩ : ∃ n, n = numOf ((s.drop 1).take 3) := ⟨_, rfl⟩
  rw [← hn] at h
  by_cases h1 : 1048576 < n
  · rw [if_pos h1] at h; simp at h
  rw [if_neg h1] at h
  by_cases h2 : s.length < n + 8
  · rw [if_pos h2] at h; simp at h
  rw [if_neg h2] at h
  by_cases h3 : sumN (s.take (4 + n)) = numOf ((s.drop (4 + n)).take 4)
  · rw [if_pos h3] at h
    simp only [Prod.mk.injEq, and_true] at h
    obtain ⟨hk, hi⟩ := h
    have hl : inn.length = n := by rw [← hi, List.length_take, List.length_drop]; omega
    have hb : bodyL k inn = s.take (4 + n) := by rw [← hk, ← hi]; exact body_take s n (by omega) hn.symm (by omega)
    refine ⟨by rw [← hk]; exact h0, by omega, s.drop (n + 8), ?_⟩
    unfold frameL
    have e5 : s.drop (n + 8) = (s.drop (4 + n)).drop 4 := by rw [List.drop_drop]; congr 1; omega
    rw [hb, h3, sum_take s n (by omega), List.append_assoc, e5, List.take_append_drop, List.take_append_drop]
  · rw [if_neg h3] at h; simp at h
theorem frame_len (k : UInt8) (s : List UInt8) : (frameL k s).length = s.length + 8 := by
  simp only [frameL, bodyL, List.length_append, List.length_cons, wideOf_length]
  omega
theorem body_len (k : UInt8) (s : List UInt8) : (bodyL k s).length = s.length + 4 := by
  simp only [bodyL, List.length_append, List.length_cons, wideOf_length]
  omega
theorem frame_take (k : UInt8) (s : List UInt8) : (frameL k s).take (s.length + 4) = bodyL k s := take_is _ _ _ (body_len k s)
theorem frame_drop (k : UInt8) (s : List UInt8) : (frameL k s).drop (s.length + 4) = wideOf (sumN (bodyL k s)) 4 := drop_is _ _ _ (body_len k s)
theorem body_in (k : UInt8) (s t : List UInt8) (h : bodyL k s = bodyL k t) : s = t := by
  have hl : s.length = t.length := by
    have := congrArg List.length h
    rw [body_len, body_len] at this
    omega
  unfold bodyL at h
  rw [hl] at h
  exact List.append_cancel_left (List.cons.inj h).2
/-- Is a file good, it is a frame of kind 1. -/
theorem parse_cases (s : List UInt8) : s = [] ∨ parseL s = ⟨0, [], true⟩ ∨ ∃ inn, inn.length ≤ 1048576 ∧ s = frameL 1 inn := by
  by_cases h0 : s = []
  · exact .inl h0
  · refine .inr ?_
    unfold parseL
    rw [if_neg h0]
    dsimp only
    split
    · rename_i h
      obtain ⟨h1, h2, h3, _, _⟩ := h
      refine .inr ⟨(openL s).2.1, ?_⟩
      obtain ⟨_, q2, r, q3⟩ := openL_inv s 1 (openL s).2.1 (by rw [← h1, ← h2])
      refine ⟨q2, ?_⟩
      have hl := congrArg List.length q3
      rw [List.length_append, frame_len] at hl
      have hr : r = [] := List.eq_nil_of_length_eq_zero (by omega)
      rw [hr, List.append_nil] at q3
      exact q3
    · exact .inl rfl
theorem spell_frame (v : Nat) (s : List UInt8) (hs : s.length ≤ 524288) : ∃ inn, inn.length ≤ 1048576 ∧ spellL v s = frameL 1 inn := by
  have h1 := uBytes_le v
  have h2 := nBytes_le (s.length : Int)
  exact ⟨_, by simp only [List.length_append]; omega, rfl⟩
/-- A proper beginning of a file is bad. -/
theorem parse_part (v : Nat) (s p q : List UInt8) (hs : s.length ≤ 524288) (hp : p ≠ []) (hq : q ≠ []) (h : spellL v s = p ++ q) : parseL p = ⟨0, [], true⟩ := by
  obtain ⟨inn, hi, he⟩ := spell_frame v s hs
  rcases parse_cases p with h1 | h1 | ⟨inp, hj, h1⟩
  · exact absurd h1 hp
  · exact h1
  · rw [he, h1] at h
    have h3 : wideOf inn.length 3 = wideOf inp.length 3 := by
      have := congrArg (fun l => (List.take 3 (List.drop 1 l))) h
      simp only [frameL, bodyL, List.cons_append, List.append_assoc, List.drop_succ_cons, List.drop_zero] at this
      rw [take_is _ _ 3 (wideOf_length _ _), take_is _ _ 3 (wideOf_length _ _)] at this
      exact this
    have h4 := congrArg numOf h3
    rw [numOf_wide, numOf_wide, Nat.mod_eq_of_lt (by omega), Nat.mod_eq_of_lt (by omega)] at h4
    have h5 := congrArg List.length h
    rw [List.length_append, frame_len, frame_len] at h5
    exact absurd (List.eq_nil_of_length_eq_zero (by omega)) hq
theorem two_frames (a b : List UInt8) (p q : List UInt8) (x y : UInt8) (hl : a.length = b.length) (ha : frameL 1 a = p ++ x :: q) (hb : frameL 1 b = p ++ y :: q) : x = y := by
  have ta := frame_take 1 a
  have tb := frame_take 1 b
  have da := frame_drop 1 a
  have db := frame_drop 1 b
  rw [ha] at ta da
  rw [hb, ← hl] at tb db
  rcases Nat.lt_or_ge p.length (a.length + 4) with h | h
  · obtain ⟨m, hm⟩ : ∃ m, a.length + 4 = p.length + (m + 1) := ⟨a.length + 4 - p.length - 1, by omega⟩
    rw [hm] at ta da tb db
    rw [List.take_append, List.take_of_length_le (by omega), show p.length + (m + 1) - p.length = m + 1 by omega, List.take_succ_cons] at ta tb
    rw [List.drop_append, List.drop_of_length_le (by omega), show p.length + (m + 1) - p.length = m + 1 by omega, List.drop_succ_cons, List.nil_append] at da db
    rw [da] at db
    have hs := congrArg numOf db
    have l1 := sumN_lt (bodyL 1 a)
    have l2 := sumN_lt (bodyL 1 b)
    rw [numOf_wide, numOf_wide, Nat.mod_eq_of_lt l1, Nat.mod_eq_of_lt l2, ← ta, ← tb] at hs
    exact sumN_one p _ x y hs
  · rw [List.take_append_of_le_length h] at ta tb
    rw [ta] at tb
    have := body_in 1 a b tb
    rw [this, hb] at ha
    have := List.append_cancel_left ha
    exact (List.cons.inj this).1.symm
/-- A file of which one byte is another one is bad. -/
theorem parse_turned (v : Nat) (s : List UInt8) (i : Nat) (x : UInt8) (hs : s.length ≤ 524288) (hi : i < (spellL v s).length) (hx : x ≠ 0) : parseL ((spellL v s).set i (((spellL v s).getD i 0) ^^^ x)) = ⟨0, [], true⟩ := by
  obtain ⟨inn, hn, he⟩ := spell_frame v s hs
  rw [he] at hi ⊢
  rcases parse_cases ((frameL 1 inn).set i (((frameL 1 inn).getD i 0) ^^^ x)) with h1 | h1 | ⟨inp, hj, h1⟩
  · have := congrArg List.length h1
    rw [List.length_set, List.length_nil] at this
    omega
  · exact h1
  · have hl := congrArg List.length h1
    rw [List.length_set, frame_len, frame_len] at hl
    have hg : (frameL 1 inn).getD i 0 = (frameL 1 inn)[i] := by simp [List.getD, hi]
    rw [hg] at h1
    have ea : frameL 1 inn = (frameL 1 inn).take i ++ (frameL 1 inn)[i] :: (frameL 1 inn).drop (i + 1) := by
      rw [List.getElem_cons_drop, List.take_append_drop]
    have eb : frameL 1 inp = (frameL 1 inn).take i ++ ((frameL 1 inn)[i] ^^^ x) :: (frameL 1 inn).drop (i + 1) := by
      rw [← h1, List.set_eq_take_append_cons_drop, if_pos hi]
    have := two_frames inn inp _ _ _ _ (by omega) ea eb
    exfalso
    apply hx
    have e2 := congrArg (fun z => (frameL 1 inn)[i] ^^^ z) this
    simp only [UInt8.xor_self, ← UInt8.xor_assoc, UInt8.zero_xor] at e2
    exact e2.symm
end Go.Proofs.Ytjaoiaknglnomaa

/-
  chatelaineref02.number, Frame of any kind, and Open, walked: they answer as seal's. Condition: texts of sizes that there are.
-/
set_option linter.unusedVariables false
set_option linter.unusedSimpArgs false
set_option maxRecDepth 100000
namespace Go.Proofs.Ytjaoiaknglnomaa
open Go.RowKit

theorem refNumber_any (l : List UInt8) (w : World) (hl : l.length ≤ 4) :
    Calls Try.prog 95 #[.string (txt l)] w fun x w' => x = .returned (.int .i64 (numOf l : Nat)) ∧ w = w' := by
  go_enter Try.func95, Try.ntmps95
  go_wp2_with fail
  go_loop [3, 4] (fun v i => ∃ j : Nat, j ≤ l.length ∧ i = .int .i64 j ∧ v = .int .i64 ((numOf (l.take j) : Nat) : Int)) (fun _ i => l.length - (intOf i).toNat)
  case atStart => exact ⟨0, Nat.zero_le _, rfl, rfl⟩
  case round =>
    obtain ⟨j, hj, rfl, rfl⟩ := hrel
    by_cases hjl : j < l.length
    · have hjl' : (j : Int) < (l.length : Int) := by omega
      have hsz : j < (txt l).size := by simpa using hjl
      have hat := txt_at l j hjl hsz
      have hb := l[j].toNat_lt
      have hlt := numOf_lt (l.take j)
      have hlt7 : numOf (l.take j) < 16777216 := Nat.lt_of_lt_of_le hlt (Nat.le_trans (Nat.pow_le_pow_right (by omega) (show _ ≤ 3 by rw [List.length_take]; omega)) (by decide))
      have HN := hd (show numOf (l.take (j + 1)) = numOf (l.take j) * 256 + l[j].toNat by rw [List.take_succ_eq_append_getElem hjl]; exact numOf_snoc _ _)
      clear hlt
      generalize numOf (l.take j) = v at *
      generalize hb0 : l[j].toNat = b at *
      have hwb : IntKind.i64.wrap (b : Int) = b := by rw [IntKind.wrap_i64]; omega
      have hws : IntKind.i64.wrap (256 * (v : Int) + (b : Int)) = ((v * 256 + b : Nat) : Int) := by rw [IntKind.wrap_i64]; omega
      go_wp2_with fail
      go_round
      case rel => exact ⟨j + 1, by omega, by go_num, by rw [HN.out]; first | rfl | exact congrArg _ (by omega)⟩
      case measure => simp [intOf]; omega
    · obtain rfl : j = l.length := by omega
      rw [List.take_length]
      go_wp2_with fail
      go_ret
      exact ⟨rfl, rfl⟩

set_option maxHeartbeats 4000000 in
theorem refFrameK_any (c : UInt8) (s : List UInt8) (w : World) (hs : s.length ≤ 1048576) :
    Calls Try.prog 43 #[.int .u8 (c.toNat : Int), .string (txt s)] w fun x w' => x = .returned (.string (txt (frameL c s))) ∧ Upd [] w w' := by
  have hc256 : c.toNat < 256 := c.toNat_lt
  have hwr : IntKind.u32.wrap (s.length : Int) = s.length := by rw [IntKind.wrap_u32]; omega
  have HD3 := hd (fun W => refDigits3_any s.length W (by omega))
  have hcn : strOfNums [(c.toNat : Int)] = txt [c] := by simp [strOfNums, txt]
  go_enter Try.func43, Try.ntmps43
  go_wp2_with fail
  have hcv : ∀ (k : Nat) (W : World), W.cell? ⟨k, 0, none⟩ = some (.int .u8 (c.toNat : Int)) → (Go.convert 47 9 (.slice (some ⟨k, 0, none⟩) 1 1)).run Try.prog W = .ok (.string (txt [c])) W := fun k W h => by
    have hr := run_convert_bytes_arg (P := Try.prog) W 47 5 Try.underlying47 Try.underlying5 k 0 1 1 [(c.toNat : Int)] rfl (fun i hi => by
      obtain rfl : i = 0 := by omega
      simpa using h) 9 Try.underlying9
    rw [hcn] at hr
    exact hr
  have hs1 := add_txt' [c] (wideOf s.length 3) (by simp [wideOf_length])
  have hs2 := add_txt' (c :: wideOf s.length 3) s (by simp [wideOf_length]; omega)
  simp only [List.cons_append, List.nil_append] at hs1 hs2
  clear hcn
  go_cut [5] from 6 to 16 (fun s5 wx => s5 = .string (txt (c :: (wideOf s.length 3 ++ s))) ∧ Upd [] w wx)
  case first =>
    go_region_with (first
      | ((with_reducible refine (HD3.out (World.drew (World.alloc _ _))).mono ?_); rintro x w2 ⟨rfl, hu2⟩; have hcz := Blk.upd (Blk.drew (Blk.new _ _ _)) hu2 (by simp); have hcv2 := hcv _ _ (hcz.cell 0))
      | ((with_reducible refine (HD3.out _).mono ?_); rintro x w2 ⟨rfl, hu2⟩))
    all_goals
      go_wp2_with fail
      go_meet
      case rel => exact ⟨rfl, by repeat (first | with_reducible exact Upd.refl _ _ | with_reducible refine Upd.drew ?_ | with_reducible refine Upd.alloc ?_ _ | with_reducible refine Upd.trans ?_ hu2)⟩
  case rest =>
    obtain ⟨rfl, hu⟩ := hcut
    have HB := hd (show bodyL c s = c :: (wideOf s.length 3 ++ s) from rfl)
    have HFR := hd (show frameL c s = bodyL c s ++ wideOf (sumN (bodyL c s)) 4 from rfl)
    rw [← HB.out]
    have hbl : (bodyL c s).length ≤ 1048580 := by rw [HB.out]; simp [wideOf_length]; omega
    have HU := hd hu
    clear hs1 hs2 hcv hwr HD3 hu HB
    have HSL := hd (sumN_lt (bodyL c s))
    generalize bodyL c s = bl at *
    have HSM := hd (fun (W : World) => refSum_any bl W (by omega))
    have HD4 := hd (fun W => refDigits4_any (sumN bl) W HSL.out)
    have hs3 := add_txt' bl (wideOf (sumN bl) 4) (by rw [wideOf_length]; omega)
    go_wp2_with fail
    refine (HSM.out _).mono ?_
    rintro x w1 ⟨rfl, rfl⟩
    generalize sumN bl = sm at *
    go_wp2_with fail
    refine (HD4.out _).mono ?_
    rintro x w2 ⟨rfl, hu2⟩
    go_wp2_with fail
    go_ret
    rw [HFR.out]
    exact ⟨rfl, HU.out.trans hu2⟩

/-- The sum fits if the frame does. -/
theorem sum_frame (s : List UInt8) (n : Nat) (h4 : 4 ≤ s.length) (hn : numOf ((s.drop 1).take 3) = n) (h2 : n + 8 ≤ s.length) :
    sumN (s.take (4 + n)) = numOf ((s.drop (4 + n)).take 4) ↔ frameL (s.headD 0) ((s.drop 4).take n) = s.take (n + 8) := by
  have e : s.take (n + 8) = s.take (4 + n) ++ (s.drop (4 + n)).take 4 := by rw [show n + 8 = (4 + n) + 4 by omega, List.take_add]
  unfold frameL
  rw [body_take s n h4 hn h2, e]
  constructor
  · intro h
    rw [h, sum_take s n h2]
  · intro h
    have h3 := List.append_cancel_left h
    have h5 := congrArg numOf h3
    rw [numOf_wide, Nat.mod_eq_of_lt (sumN_lt _)] at h5
    exact h5

set_option maxHeartbeats 8000000 in
theorem refOpen_any (s : List UInt8) (w : World) (hs : s.length ≤ 1099511627776) :
    Calls Try.prog 75 #[.string (txt s)] w fun x w' => x = .returned (.tuple #[.agg #[.int .u8 ((openL s).1.toNat : Int), .string (txt (openL s).2.1)], .int .i64 (openL s).2.2]) ∧ Upd [] w w' := by
  have e1 : ∃ W, w.alloc (.cells #[.int .u8 0, .string ⟨#[]⟩] 127) = W ∧ Upd [] w W ∧ Blk W w.heap.size #[.int .u8 0, .string ⟨#[]⟩] 127 := ⟨_, rfl, (Upd.refl _ _).alloc _, Blk.new _ _ _⟩
  have bad : ∀ W, Upd [] w W → Blk W w.heap.size #[.int .u8 0, .string ⟨#[]⟩] 127 → ∃ W', ((W.setCell ⟨w.heap.size, 0, none⟩ (.int .u8 0)).setCell ⟨w.heap.size, 1, none⟩ (.string ⟨#[]⟩)) = W' ∧ Upd [] w W' ∧ Blk W' w.heap.size #[.int .u8 0, .string ⟨#[]⟩] 127 := fun W hu hB => by
    obtain ⟨W', h1, h2, h3⟩ := set2 hB (.int .u8 0) (.string ⟨#[]⟩)
    exact ⟨W', h1, hu.trans' h2 (by intro i hi; simp at hi; omega), h3⟩
  have HBAD := hd bad
  clear bad
  by_cases h4 : s.length < 4
  · have HO := hd (show openL s = (0, [], 3) by unfold openL; rw [if_pos h4])
    have h4' : (s.length : Int) < 4 := by omega
    go_enter Try.func75, Try.ntmps75
    go_upto_region 1 with fail
    obtain ⟨W, hW, hu, hB⟩ := e1
    rw [hW]
    clear hW
    have hbq := hB.cell
    have hbz := hB.frozen
    obtain ⟨W8, e8, u8, b8⟩ := HBAD.out W hu hB
    have HE := hd e8
    have HU := hd u8
    have HB := hd b8
    clear e8 u8 b8 hu hB
    go_wp2_with fail
    rw [HE.out]
    have hbc := HB.out.cell
    refine bodyPost_ret (v := .tuple #[.agg #[.int .u8 0, .string ⟨#[]⟩], .int .i64 3]) (by simp [results, Try.results75, go_sem, hbc]) rfl ?_
    rw [HO.out]
    exact ⟨rfl, HU.out⟩
  · have h4' : ¬ (s.length : Int) < 4 := by omega
    have hm3 := txt_mid s 1 4 (by omega) (by omega)
    have hl3 : ((s.drop 1).take (4 - 1)).length ≤ 4 := by rw [List.length_take]; omega
    have HN3 := hd (refNumber_any ((s.drop 1).take (4 - 1)) · hl3)
    have hn3 := numOf_lt ((s.drop 1).take (4 - 1))
    have hn3' : numOf ((s.drop 1).take (4 - 1)) < 16777216 := Nat.lt_of_lt_of_le hn3 (Nat.le_trans (Nat.pow_le_pow_right (by omega) (show _ ≤ 3 by rw [List.length_take]; omega)) (by decide))
    have hO1 : openL s = if s.headD 0 = 0 then (0, [], 4) else
        if 1048576 < numOf ((s.drop 1).take (4 - 1)) then (0, [], 6) else if s.length < numOf ((s.drop 1).take (4 - 1)) + 8 then (0, [], 3)
        else if sumN (s.take (4 + numOf ((s.drop 1).take (4 - 1)))) = numOf ((s.drop (4 + numOf ((s.drop 1).take (4 - 1)))).take 4) then (s.headD 0, (s.drop 4).take (numOf ((s.drop 1).take (4 - 1))), 0) else (0, [], 5) := by
      unfold openL; rw [if_neg h4]
    have HO := hd hO1
    have HSF := hd (fun (h : numOf ((s.drop 1).take (4 - 1)) + 8 ≤ s.length) => sum_frame s (numOf ((s.drop 1).take (4 - 1))) (by omega) rfl h)
    clear hO1 hn3
    have hz : 0 < (txt s).size := by simp; omega
    obtain ⟨c, hcd, hc0s⟩ : ∃ c, s.headD 0 = c ∧ (txt s)[0]'hz = c := by
      refine ⟨_, rfl, ?_⟩
      rw [txt_at s 0 (by omega) hz]
      cases s with
      | nil => simp at h4
      | cons c r => rfl
    rw [hcd] at HO HSF
    clear hcd
    generalize ((s.drop 1).take (4 - 1)) = q3 at *
    have hc256 : c.toNat < 256 := c.toNat_lt
    obtain ⟨l, hls⟩ : ∃ l, l = s := ⟨_, rfl⟩
    subst hls
    go_enter Try.func75, Try.ntmps75
    go_upto_region 1 with fail
    obtain ⟨W, hW, hu, hB⟩ := e1
    rw [hW]
    clear hW
    have hbq := hB.cell
    have hbz := hB.frozen
    have HU := hd hu
    have HB := hd hB
    clear hu hB
    by_cases hc0 : c = 0
    · have hc0' : ((c.toNat : Int) == 0) = true := by rw [hc0]; rfl
      have HC := hd hc0
      clear hc0
      obtain ⟨W8, e8, u8, b8⟩ := HBAD.out W HU.out HB.out
      have HE := hd e8
      have HU8 := hd u8
      have HB8 := hd b8
      clear e8 u8 b8
      go_wp2_with fail
      rw [HE.out]
      have hbc := HB8.out.cell
      refine bodyPost_ret (v := .tuple #[.agg #[.int .u8 0, .string ⟨#[]⟩], .int .i64 4]) (by simp [results, Try.results75, go_sem, hbc]) rfl ?_
      rw [HO.out, if_pos HC.out]
      exact ⟨rfl, HU8.out⟩
    · have hc0' : ((c.toNat : Int) == 0) = false := by
        simp only [beq_eq_false_iff_ne, ne_eq]
        intro e
        exact hc0 (UInt8.toNat_inj.1 (by simpa using e))
      have HC := hd hc0
      clear hc0
      go_wp2_with fail
      refine (HN3.out W).mono ?_
      rintro x w1 ⟨rfl, rfl⟩
      generalize numOf q3 = n at *
      by_cases hn : 1048576 < n
      · have hn' : (1048576 : Int) < (n : Int) := by omega
        obtain ⟨W8, e8, u8, b8⟩ := HBAD.out W HU.out HB.out
        have HE := hd e8
        have HU8 := hd u8
        have HB8 := hd b8
        clear e8 u8 b8
        go_wp2_with fail
        rw [HE.out]
        have hbc := HB8.out.cell
        refine bodyPost_ret (v := .tuple #[.agg #[.int .u8 0, .string ⟨#[]⟩], .int .i64 6]) (by simp [results, Try.results75, go_sem, hbc]) rfl ?_
        rw [HO.out, if_neg HC.out, if_pos hn]
        exact ⟨rfl, HU8.out⟩
      · have hn' : ¬ (1048576 : Int) < (n : Int) := by omega
        by_cases hl8 : l.length < n + 8
        · have hl8' : (l.length : Int) < (n : Int) + 8 := by omega
          obtain ⟨W8, e8, u8, b8⟩ := HBAD.out W HU.out HB.out
          have HE := hd e8
          have HU8 := hd u8
          have HB8 := hd b8
          clear e8 u8 b8
          go_wp2_with fail
          rw [HE.out]
          have hbc := HB8.out.cell
          refine bodyPost_ret (v := .tuple #[.agg #[.int .u8 0, .string ⟨#[]⟩], .int .i64 3]) (by simp [results, Try.results75, go_sem, hbc]) rfl ?_
          rw [HO.out, if_neg HC.out, if_neg hn, if_pos hl8]
          exact ⟨rfl, HU8.out⟩
        · have hl8' : ¬ (l.length : Int) < (n : Int) + 8 := by omega
          have hx1 := txt_head l (n + 8) (by omega)
          have hx3 := txt_mid l 4 (4 + n) (by omega) (by omega)
          rw [show 4 + n - 4 = n by omega] at hx3
          have hb1 : 0 ≤ (4 : Int) + n := by omega
          have hb2 : ((4 : Int) + n).toNat = 4 + n := by omega
          have hb3 : ((n : Int) + 8).toNat = n + 8 := by omega
          have hi3 : (4 : Int) + n ≤ l.length := by omega
          have hi4 : (n : Int) + 8 ≤ l.length := by omega
          have hi5 : (4 : Int) + n ≤ n + 8 := by omega
          have hi6 : (0 : Int) ≤ n + 8 := by omega
          have hi7 : (4 : Int) ≤ 4 + n := by omega
          have hi1 : IntKind.i64.wrap ((4 : Int) + n) = 4 + n := by rw [IntKind.wrap_i64]; omega
          have hi2 : IntKind.i64.wrap ((n : Int) + 8) = n + 8 := by rw [IntKind.wrap_i64]; omega
          have HOF := hd (show openL l = if frameL c ((l.drop 4).take n) = l.take (n + 8) then (c, (l.drop 4).take n, 0) else (0, [], 5) by
            rw [HO.out, if_neg HC.out, if_neg hn, if_neg hl8]
            have h := HSF.out (by omega)
            by_cases hh : frameL c ((l.drop 4).take n) = l.take (n + 8)
            · rw [if_pos hh, if_pos (h.2 hh)]
            · rw [if_neg hh, if_neg (fun q => hh (h.1 q))])
          have HFK := hd (fun W => refFrameK_any c ((l.drop 4).take n) W (by rw [List.length_take]; omega))
          clear hn3' hm3 hl3 HN3 HO HSF
          generalize (l.drop 4).take n = inn at *
          generalize frameL c inn = FR at *
          generalize hTK : l.take (n + 8) = TK at *
          go_upto_region 10 with fail
          go_cut [36] (fun s36 wx => s36 = .bool (decide (FR ≠ TK)) ∧ Upd [] w wx ∧ Blk wx w.heap.size #[.int .u8 0, .string ⟨#[]⟩] 127)
          case first =>
            by_cases hq : FR = TK
            · have hqb : ((txt FR).toList == (txt TK).toList) = true := by rw [hq]; simp
              have hqd : decide (FR ≠ TK) = false := by simp [hq]
              have HQD := hd hqd
              clear hq hqd
              go_region_with ((with_reducible refine (HFK.out _).mono ?_); rintro x w2 ⟨rfl, hu2⟩)
              all_goals
                go_wp2_with fail
                go_meet
                case rel =>
                  rw [HQD.out]
                  first
                  | exact ⟨rfl, HU.out.trans hu2, HB.out.upd hu2 (by simp)⟩
                  | exact ⟨rfl, (HU.out.trans hu2).drew, (HB.out.upd hu2 (by simp)).drew⟩
                  | exact ⟨rfl, HU.out.drew.trans hu2, HB.out.drew.upd hu2 (by simp)⟩
            · have hqb : ((txt FR).toList == (txt TK).toList) = false := by rw [txt_list, txt_list]; simpa using hq
              have hqd : decide (FR ≠ TK) = true := by simpa using hq
              have HQD := hd hqd
              clear hq hqd
              go_region_with ((with_reducible refine (HFK.out _).mono ?_); rintro x w2 ⟨rfl, hu2⟩)
              all_goals
                go_wp2_with fail
                go_meet
                case rel =>
                  rw [HQD.out]
                  first
                  | exact ⟨rfl, HU.out.trans hu2, HB.out.upd hu2 (by simp)⟩
                  | exact ⟨rfl, (HU.out.trans hu2).drew, (HB.out.upd hu2 (by simp)).drew⟩
                  | exact ⟨rfl, HU.out.drew.trans hu2, HB.out.drew.upd hu2 (by simp)⟩
          case rest =>
            obtain ⟨rfl, hu, hB⟩ := hcut
            clear hbq hbz HU HB
            have hbq := hB.cell
            have hbz := hB.frozen
            by_cases hq : FR = TK
            · have hqd : decide (FR ≠ TK) = false := by simp [hq]
              have HX := hd (HOF.out.trans (if_pos hq))
              rw [hqd]
              clear hq hqd HOF
              obtain ⟨W8, e8, u8, b8⟩ := set2 hB (.int .u8 (c.toNat : Int)) (.string (txt inn))
              have HE := hd e8
              have HU8 := hd (hu.trans' u8 (by intro i hi; simp at hi; omega))
              have HB8 := hd b8
              clear e8 u8 b8 hu hB
              go_upto_region 12 with fail
              go_region_with fail
              all_goals
                go_wp2_with fail
                first
                | (rw [HE.out]
                   have hbc := HB8.out.cell
                   refine bodyPost_ret (v := .tuple #[.agg #[.int .u8 (c.toNat : Int), .string (txt inn)], .int .i64 0]) (by simp [results, Try.results75, go_sem, hbc]) rfl ?_
                   rw [HX.out]
                   exact ⟨rfl, HU8.out⟩)
                | (rw [HE.out]
                   have hbc := HB8.out.drew.cell
                   refine bodyPost_ret (v := .tuple #[.agg #[.int .u8 (c.toNat : Int), .string (txt inn)], .int .i64 0]) (by simp [results, Try.results75, go_sem, hbc]) rfl ?_
                   rw [HX.out]
                   exact ⟨rfl, HU8.out.drew⟩)
            · have hqd : decide (FR ≠ TK) = true := by simpa using hq
              have HX := hd (HOF.out.trans (if_neg hq))
              rw [hqd]
              clear hq hqd HOF
              obtain ⟨W8, e8, u8, b8⟩ := HBAD.out wc hu hB
              have HE := hd e8
              have HU8 := hd u8
              have HB8 := hd b8
              clear e8 u8 b8 hu hB
              go_wp2_with fail
              rw [HE.out]
              have hbc := HB8.out.cell
              refine bodyPost_ret (v := .tuple #[.agg #[.int .u8 0, .string ⟨#[]⟩], .int .i64 5]) (by simp [results, Try.results75, go_sem, hbc]) rfl ?_
              rw [HX.out]
              exact ⟨rfl, HU8.out⟩
end Go.Proofs.Ytjaoiaknglnomaa
