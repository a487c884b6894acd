/-
  Paths above one another, the first good parts of a list: plain laws; no program in sight.
-/
import Derived.Test.YtpniggmdokkkcaaGreatDoorMb3
set_option linter.unusedVariables false
set_option linter.unusedSimpArgs false
namespace Go.Proofs.YtpniggmdokkkcaaGreatDoor

/-- What path.Over says of two texts. -/
def overT (p o : List UInt8) : Bool := p.isPrefixOf o && (match o.drop p.length with
  | [] => true
  | c :: _ => decide (c = 47))
theorem overT_iff (p o : List UInt8) : overT p o = true ↔ ∃ rest, o = p ++ rest ∧ (rest = [] ∨ ∃ t, rest = 47 :: t) := by
  unfold overT
  rw [Bool.and_eq_true, List.isPrefixOf_iff_prefix]
  constructor
  · rintro ⟨⟨r, rfl⟩, h⟩
    rw [List.drop_left] at h
    refine ⟨r, rfl, ?_⟩
    cases r with
    | nil => exact .inl rfl
    | cons c t =>
      simp at h
      subst h
      exact .inr ⟨t, rfl⟩
  · rintro ⟨r, rfl, h⟩
    refine ⟨⟨r, rfl⟩, ?_⟩
    rw [List.drop_left]
    rcases h with rfl | ⟨t, rfl⟩
    · rfl
    · simp
/-- A text that begins a part: nothing, or a slash. -/
def Edge (s : List UInt8) : Prop := s = [] ∨ ∃ t, s = 47 :: t
theorem edge_text (l : List (List UInt8)) : Edge (textL l) := by
  cases l with
  | nil => exact .inl rfl
  | cons x r => exact .inr ⟨x ++ textL r, rfl⟩
theorem edge_app {a b : List UInt8} (ha : Edge a) (hb : Edge b) : Edge (a ++ b) := by
  rcases ha with rfl | ⟨t, rfl⟩
  · exact hb
  · exact .inr ⟨t ++ b, rfl⟩
theorem cut_eq : ∀ {x y s t : List UInt8}, (47 : UInt8) ∉ x → (47 : UInt8) ∉ y → Edge s → Edge t → x ++ s = y ++ t → x = y
  | [], [], _, _, _, _, _, _, _ => rfl
  | [], d :: y, s, t, _, hy, hs, _, h => by
    simp only [List.nil_append, List.cons_append] at h
    rcases hs with rfl | ⟨u, rfl⟩
    · cases h
    · simp only [List.cons.injEq] at h
      exact absurd (by rw [← h.1]; simp) hy
  | c :: x, [], s, t, hx, _, _, ht, h => by
    simp only [List.nil_append, List.cons_append] at h
    rcases ht with rfl | ⟨u, rfl⟩
    · cases h
    · simp only [List.cons.injEq] at h
      exact absurd (by rw [h.1]; simp) hx
  | c :: x, d :: y, s, t, hx, hy, hs, ht, h => by
    simp only [List.cons_append, List.cons.injEq] at h
    simp only [List.mem_cons, not_or] at hx hy
    rw [h.1, cut_eq hx.2 hy.2 hs ht h.2]
/-- Parts without a slash. -/
def Clean (l : List (List UInt8)) : Prop := ∀ x ∈ l, (47 : UInt8) ∉ x
theorem over_text : ∀ {a b : List (List UInt8)}, Clean a → Clean b → ((∃ rest, textL b = textL a ++ rest ∧ Edge rest) ↔ a <+: b)
  | [], b, _, _ => ⟨fun _ => List.nil_prefix, fun _ => ⟨textL b, rfl, edge_text b⟩⟩
  | x :: a, [], _, _ => by
    constructor
    · rintro ⟨r, h, _⟩
      cases h
    · intro h
      exact absurd h (by simp)
  | x :: a, y :: b, ha, hb => by
    have hx : (47 : UInt8) ∉ x := ha x (by simp)
    have hy : (47 : UInt8) ∉ y := hb y (by simp)
    have ih := over_text (a := a) (b := b) (fun z hz => ha z (by simp [hz])) (fun z hz => hb z (by simp [hz]))
    constructor
    · rintro ⟨r, h, hr⟩
      simp only [textL, List.cons_append, List.append_assoc, List.cons.injEq, true_and] at h
      have hxy := cut_eq hy hx (edge_text b) (edge_app (edge_text a) hr) h
      subst hxy
      rw [List.append_cancel_left_eq] at h
      exact (List.prefix_cons_inj y).2 (ih.1 ⟨r, h, hr⟩)
    · intro h
      obtain ⟨hxy, h2⟩ := List.cons_prefix_cons.1 h
      subst hxy
      obtain ⟨r, hr, he⟩ := ih.2 h2
      exact ⟨r, by simp only [textL, hr, List.cons_append, List.append_assoc], he⟩
theorem overT_parts {a b : List (List UInt8)} (ha : Clean a) (hb : Clean b) : overT (textL a) (textL b) = a.isPrefixOf b := by
  rw [Bool.eq_iff_iff, overT_iff, List.isPrefixOf_iff_prefix]
  exact over_text ha hb
theorem clean_of {l : List (List UInt8)} (h : ∀ x ∈ l, partL x = true) : Clean l := fun x hx => (part_short (h x hx)).2.2
theorem splitL_text : ∀ {x : List UInt8} {l : List (List UInt8)}, (47 : UInt8) ∉ x → Clean l → splitL (x ++ textL l) = x :: l
  | x, [], hx, _ => by rw [textL, List.append_nil, splitL_none hx]
  | x, y :: l, hx, hl => by
    show splitL (x ++ 47 :: (y ++ textL l)) = _
    rw [splitL_cut hx, splitL_text (hl y (by simp)) (fun z hz => hl z (by simp [hz]))]
theorem parts_text {l : List (List UInt8)} (h : Clean l) : parts5 (textL l) = l := by
  cases l with
  | nil => rfl
  | cons x r =>
    show parts5 (47 :: (x ++ textL r)) = _
    unfold parts5
    rw [if_neg (by simp)]
    exact splitL_text (h x (by simp)) (fun z hz => h z (by simp [hz]))
theorem count_text : ∀ {l : List (List UInt8)}, Clean l → (textL l).count 47 = l.length
  | [], _ => rfl
  | x :: l, h => by
    show (47 :: (x ++ textL l)).count 47 = _
    rw [List.count_cons_self, List.count_append, List.count_eq_zero.2 (h x (by simp)), count_text (fun z hz => h z (by simp [hz])), List.length_cons]
    omega
theorem text_inj {a b : List (List UInt8)} (ha : Clean a) (hb : Clean b) (h : textL a = textL b) : a = b := by
  rw [← parts_text ha, h, parts_text hb]
/-- The first six parts that may be. -/
def mk6 (l : List (List UInt8)) : List (List UInt8) := (l.filter partL).take 6
theorem mk6_fine (l : List (List UInt8)) : (∀ x ∈ mk6 l, partL x = true) ∧ (mk6 l).length ≤ 6 := by
  constructor
  · intro x hx
    exact (List.mem_filter.1 (List.mem_of_mem_take hx)).2
  · unfold mk6; rw [List.length_take]; omega
theorem mk6_next (l : List (List UInt8)) (t : Nat) (h : t < l.length) (hl : (mk6 (l.take t)).length < 6) : mk6 (l.take (t + 1)) = if partL l[t] then mk6 (l.take t) ++ [l[t]] else mk6 (l.take t) := by
  unfold mk6 at hl ⊢
  rw [List.length_take] at hl
  rw [List.take_succ_eq_append_getElem h, List.filter_append]
  have h1 : (l.take t).filter partL = ((l.take t).filter partL).take 6 := (List.take_of_length_le (by omega)).symm
  by_cases hp : partL l[t] = true
  · rw [if_pos hp, List.filter_cons_of_pos hp, List.filter_nil, List.take_of_length_le (by rw [List.length_append]; simp; omega), ← h1]
  · rw [if_neg hp, List.filter_cons_of_neg hp, List.filter_nil, List.append_nil]
theorem mk6_end (l : List (List UInt8)) (t : Nat) (h : (mk6 (l.take t)).length = 6) : mk6 l = mk6 (l.take t) := by
  unfold mk6 at h ⊢
  conv => lhs; rw [← List.take_append_drop t l, List.filter_append]
  rw [List.length_take] at h
  rw [List.take_append_of_le_length (by omega)]
theorem text_take (l : List (List UInt8)) (x : List UInt8) : (textL (l ++ [x])).take (textL l).length = textL l := by
  rw [text_app, List.take_left]
/-- The last slash of a path's text. -/
theorem last_text {l : List (List UInt8)} {x : List UInt8} (hx : (47 : UInt8) ∉ x) : Lib.lastIndexByte (txt (textL (l ++ [x]))) 47 = (textL l).length := by
  have h1 : textL (l ++ [x]) = textL l ++ 47 :: x := by rw [text_app]; simp [textL]
  rw [h1]
  generalize textL l = a
  unfold Lib.lastIndexByte
  have hget : ∀ j, j < (a ++ 47 :: x).length → (txt (a ++ 47 :: x)).data[j]! = (a ++ 47 :: x)[j]! := fun j hj => by
    simp [txt]
  rcases Lib.lastIdx_spec (txt (a ++ 47 :: x)) 47 (txt (a ++ 47 :: x)).size with ⟨_, h⟩ | ⟨i, hi, he, hc, hn⟩
  · have := h a.length (by simp)
    rw [hget _ (by simp)] at this
    simp at this
  · rw [he]
    rw [txt_size] at hi hn
    rw [hget i hi] at hc
    rcases Nat.lt_trichotomy i a.length with h | h | h
    · have := hn a.length h (by simp)
      rw [hget _ (by simp)] at this
      simp at this
    · rw [h]
    · exfalso
      obtain ⟨j, rfl⟩ : ∃ j, i = a.length + 1 + j := ⟨i - a.length - 1, by omega⟩
      simp only [List.length_append, List.length_cons] at hi
      have hj : j < x.length := by omega
      have hg : (a ++ 47 :: x)[a.length + 1 + j]! = x[j] := by
        rw [show a ++ 47 :: x = (a ++ [47]) ++ x by simp]
        rw [List.getElem!_eq_getElem?_getD, List.getElem?_append_right (by simp)]
        simp [hj]
      rw [hg] at hc
      have : x[j] = 47 := UInt8.toNat.inj (by show x[j].toNat = 47; omega)
      exact hx (this ▸ List.getElem_mem hj)
end Go.Proofs.YtpniggmdokkkcaaGreatDoor

/-
  The document's Made and Parse, and the statements' same, walked. Conditions: texts of sizes that there are.
-/
set_option linter.unusedVariables false
set_option linter.unusedSimpArgs false
set_option maxRecDepth 100000
namespace Go.Proofs.YtpniggmdokkkcaaGreatDoor
open Go.RowKit

set_option maxHeartbeats 4000000 in
theorem rmade_any (l : List (List UInt8)) (v : Value) (w : World) (hv : TxsAt w v l) (hl : ∀ x ∈ l, x.length ≤ 9223372036854775807) :
    Calls Tryz.prog 42 #[v] w fun e w' => e = .returned (.bool (madeL l)) ∧ w = w' := by
  have HV := hd hv
  obtain ⟨a, c, rfl, hc, hm, -⟩ := hv
  go_enter Tryz.func42, Tryz.ntmps42
  go_wp2_with fail
  go_loopw [7] (fun s7 wr => ∃ t : Nat, s7 = .int .i64 t ∧ t ≤ l.length ∧ (∀ x ∈ l.take t, partL x = true) ∧ w = wr) (fun s7 _ => l.length - (intOf s7).toNat)
  case atStart => exact ⟨0, rfl, by omega, by simp, rfl⟩
  case round =>
    obtain ⟨t, rfl, ht, hall, rfl⟩ := hrel
    have HALL := hd hall
    clear hall
    by_cases htn : t < l.length
    · have htn' : (t : Int) < (l.length : Int) := by omega
      obtain ⟨a', c', e, q1, q2, q3⟩ := HV.out
      simp only [Value.slice.injEq] at e
      obtain ⟨rfl, -, rfl⟩ := e
      obtain ⟨kl, ol, rfl, hkl, hcl⟩ := q3 (by omega)
      have hc0 := hcl t htn
      have hx := hl l[t] (List.getElem_mem _)
      have HP := hd (fun W => rpart_any l[t] W hx)
      have HIN := hd (show ∀ y ∈ l.take (t + 1), y ∈ l.take t ∨ y = l[t] by
        intro y hy
        rw [List.take_succ_eq_append_getElem htn] at hy
        rcases List.mem_append.1 hy with h | h
        · exact .inl h
        · exact .inr (List.mem_singleton.1 h))
      have HMF := hd (show partL l[t] = false → madeL l = false from fun h => by
        unfold madeL
        have : l.all partL = false := List.all_eq_false.2 ⟨l[t], List.getElem_mem _, by rw [h]; decide⟩
        rw [this]; rfl)
      clear hcl q3
      generalize l[t] = x at *
      rcases hp : partL x with _ | _
      · rw [hp] at HP
        have HM := hd (HMF.out hp)
        clear hp HMF
        go_wp2_with fail
        refine (HP.out _).mono ?_
        rintro e w1 ⟨rfl, rfl⟩
        go_wp2_with fail
        go_ret
        exact ⟨by rw [HM.out]; rfl, rfl⟩
      · rw [hp] at HP
        have HPT := hd hp
        clear hp HMF
        go_wp2_with fail
        refine (HP.out _).mono ?_
        rintro e w1 ⟨rfl, rfl⟩
        go_wp2_with fail
        go_roundw
        case rel => exact ⟨t + 1, by go_num, by omega, fun y hy => (HIN.out y hy).elim (HALL.out y) (fun e => e ▸ HPT.out), by first | rfl | trivial⟩
        case measure => simp [intOf]; omega
    · have htl : l.take t = l := List.take_of_length_le (by omega)
      rw [htl] at HALL
      clear htl
      by_cases h6 : l.length ≤ 6
      · have h6' : (l.length : Int) < 7 := by omega
        have HM := hd (show madeL l = true by
          unfold madeL
          rw [List.all_eq_true.2 HALL.out, decide_eq_true h6]
          rfl)
        go_wp2_with fail
        go_ret
        exact ⟨by rw [HM.out]; rfl, rfl⟩
      · have h6' : ¬ (l.length : Int) < 7 := by omega
        have HM := hd (show madeL l = false by
          unfold madeL
          rw [decide_eq_false h6]
          simp)
        go_wp2_with fail
        go_ret
        exact ⟨by rw [HM.out]; rfl, rfl⟩
end Go.Proofs.YtpniggmdokkkcaaGreatDoor

/-
  The document's Parse, walked. Conditions: texts of sizes that there are.
-/
set_option linter.unusedVariables false
set_option linter.unusedSimpArgs false
set_option maxRecDepth 100000
namespace Go.Proofs.YtpniggmdokkkcaaGreatDoor
open Go.RowKit

theorem splitL_slash (a : List UInt8) : splitL (a ++ [47]) = splitL a ++ [[]] := by
  induction a with
  | nil => rfl
  | cons b a ih =>
    rw [List.cons_append, splitL_cons, splitL_cons, ih]
    by_cases hb : b = 47
    · rw [if_pos hb, if_pos hb]; rfl
    · rw [if_neg hb, if_neg hb]
      cases hs : splitL a with
      | nil => exact absurd hs (splitL_ne a)
      | cons y q => rfl
theorem splitL_snoc (c : UInt8) (hc : c ≠ 47) (a : List UInt8) : ∀ (o : List (List UInt8)) (x : List UInt8), splitL a = o ++ [x] → splitL (a ++ [c]) = o ++ [x ++ [c]] := by
  induction a with
  | nil =>
    intro o x h
    have h1 : splitL [] = [[]] := rfl
    rw [h1] at h
    cases o with
    | nil =>
      simp at h
      subst h
      simp [splitL, hc]
    | cons y o => simp at h
  | cons b a ih =>
    intro o x h
    rw [List.cons_append, splitL_cons]
    rw [splitL_cons] at h
    by_cases hb : b = 47
    · rw [if_pos hb] at h ⊢
      cases o with
      | nil =>
        simp at h
        exact absurd h.2 (splitL_ne a)
      | cons y o =>
        simp only [List.cons_append, List.cons.injEq] at h
        rw [ih o x h.2, ← h.1]
        rfl
    · rw [if_neg hb] at h ⊢
      cases hs : splitL a with
      | nil => exact absurd hs (splitL_ne a)
      | cons y q =>
        rw [hs] at h
        simp only at h
        cases o with
        | nil =>
          simp only [List.nil_append, List.cons.injEq] at h
          obtain ⟨h1, h2⟩ := h
          subst h2
          rw [ih [] y (by rw [hs]; rfl)]
          subst h1
          rfl
        | cons z o =>
          simp only [List.cons_append, List.cons.injEq] at h
          obtain ⟨h1, h2⟩ := h
          rw [ih (y :: o) x (by rw [hs, h2]; rfl)]
          subst h1
          rfl
theorem splitL_last (a : List UInt8) : ∃ o x, splitL a = o ++ [x] := by
  have := splitL_ne a
  exact ⟨(splitL a).dropLast, (splitL a).getLast this, (List.dropLast_concat_getLast this).symm⟩
/-- What the document's Parse answers. -/
def Parts (w : World) (v : Value) (b : Bool) (o : Option (List (List UInt8))) : Prop :=
  match o with
  | some l => b = true ∧ TxsAt w v l
  | none => b = false
theorem txt_one (s : List UInt8) (t : Nat) (h : t < s.length) : (txt s).extract t (t + 1) = txt [s[t]] := by
  apply ByteArray.ext
  simp only [txt, ByteArray.data_extract]
  rw [List.extract_toArray, List.extract_eq_take_drop]
  congr 1
  rw [show t + 1 - t = 1 by omega, List.drop_eq_getElem_cons h]
  rfl

end Go.Proofs.YtpniggmdokkkcaaGreatDoor

/-
  path.Over, InLine, Up and the statements' Made, walked. Conditions: texts of sizes that there are; the library's variables hold what they are laid to hold.
-/
set_option linter.unusedVariables false
set_option linter.unusedSimpArgs false
set_option maxRecDepth 100000
namespace Go.Proofs.YtpniggmdokkkcaaGreatDoor
open Go.RowKit

set_option maxHeartbeats 4000000 in
theorem pover_any (p o : List UInt8) (w : World) : Calls Tryz.prog 54 #[.agg #[.string (txt p)], .agg #[.string (txt o)]] w fun e w' => e = .returned (.bool (overT p o)) ∧ Upd [] w w' := by
  have hb1 := Blk.new (w.alloc (.cells #[.string (txt p)] 40)) #[.string (txt o)] 40
  have hb0 := (Blk.new w #[.string (txt p)] 40).alloc (.cells #[.string (txt o)] 40)
  have e0 : ∃ W k j, w.heap.size = k ∧ k + 1 = j ∧ (w.alloc (.cells #[.string (txt p)] 40)).alloc (.cells #[.string (txt o)] 40) = W ∧ Upd [] w W ∧ Blk W k #[.string (txt p)] 40 ∧ Blk W j #[.string (txt o)] 40 :=
    ⟨_, _, _, rfl, rfl, rfl, ((Upd.refl _ _).alloc _).alloc _, hb0, by simpa using hb1⟩
  clear hb0 hb1
  have HC := hd (lib_cut o p)
  go_enter Tryz.func54, Tryz.ntmps54
  go_upto_region 1 with fail
  obtain ⟨W, k, j, hk, hj, hW, hu, hb, hb'⟩ := e0
  rw [hW, hk, hj]
  have HU := hd hu
  have hc := hb.cell
  have hc' := hb'.cell
  clear hW hk hj hu hb hb'
  rcases hp : p.isPrefixOf o with _ | _
  · have HF := hd (show overT p o = false by unfold overT; rw [hp]; rfl)
    rw [hp] at HC
    clear hp
    go_wp2_with fail
    refine (HC.out _).mono ?_
    rintro e w1 ⟨rfl, rfl⟩
    go_wp2_with fail
    go_ret
    exact ⟨by rw [HF.out]; rfl, HU.out⟩
  · have HT := hd (show overT p o = match o.drop p.length with
      | [] => true
      | c :: _ => decide (c = 47) by unfold overT; rw [hp]; rfl)
    rw [hp] at HC
    clear hp
    simp only [if_true] at HC
    rcases hr : o.drop p.length with _ | ⟨c, t⟩
    · rw [hr] at HC HT
      have hemp : (txt []).toList.isEmpty = true := by rw [txt_list]; rfl
      go_wp2_with fail
      refine (HC.out _).mono ?_
      rintro e w1 ⟨rfl, rfl⟩
      go_wp2_with fail
      go_ret
      exact ⟨by rw [HT.out]; rfl, HU.out⟩
    · rw [hr] at HC HT
      clear hr
      have hemp : (txt (c :: t)).toList.isEmpty = false := by rw [txt_list]; rfl
      have hsz0 : 0 < (txt (c :: t)).size := by rw [txt_size]; simp
      have hat0 : (txt (c :: t))[0]'hsz0 = c := txt_at (c :: t) 0 (by simp) hsz0
      have HAT := hd hat0
      by_cases hc47 : c = 47
      · have hb : (((txt (c :: t))[0]'hsz0).toNat : Int) = 47 := by rw [hat0, hc47]; rfl
        have HC47 := hd hc47
        clear hat0 hc47
        go_wp2_with fail
        refine (HC.out _).mono ?_
        rintro e w1 ⟨rfl, rfl⟩
        go_wp2_with fail
        go_ret
        exact ⟨by rw [HT.out]; simp [HC47.out], HU.out⟩
      · have hb : ((((txt (c :: t))[0]'hsz0).toNat : Int) == 47) = false := by
          rw [hat0]
          simp only [beq_eq_false_iff_ne, ne_eq]
          intro e
          exact hc47 (UInt8.toNat.inj (by show c.toNat = 47; omega))
        have HC47 := hd hc47
        clear hat0 hc47
        go_wp2_with fail
        refine (HC.out _).mono ?_
        rintro e w1 ⟨rfl, rfl⟩
        go_wp2_with fail
        go_ret
        exact ⟨by rw [HT.out]; simp [HC47.out], HU.out⟩

theorem pinline_any (p o : List UInt8) (w : World) : Calls Tryz.prog 31 #[.agg #[.string (txt p)], .agg #[.string (txt o)]] w fun e w' => e = .returned (.bool (overT p o || overT o p)) ∧ Upd [] w w' := by
  have hb1 := Blk.new (w.alloc (.cells #[.string (txt p)] 40)) #[.string (txt o)] 40
  have hb0 := (Blk.new w #[.string (txt p)] 40).alloc (.cells #[.string (txt o)] 40)
  have e0 : ∃ W k j, w.heap.size = k ∧ k + 1 = j ∧ (w.alloc (.cells #[.string (txt p)] 40)).alloc (.cells #[.string (txt o)] 40) = W ∧ Upd [] w W ∧ Blk W k #[.string (txt p)] 40 ∧ Blk W j #[.string (txt o)] 40 :=
    ⟨_, _, _, rfl, rfl, rfl, ((Upd.refl _ _).alloc _).alloc _, hb0, by simpa using hb1⟩
  clear hb0 hb1
  have HC := hd (pover_any p o)
  have HC' := hd (pover_any o p)
  have HE := hd (show ∃ a b, overT p o = a ∧ overT o p = b from ⟨_, _, rfl, rfl⟩)
  obtain ⟨a, b, ha, hb⟩ := HE.out
  rw [ha] at HC ⊢
  rw [hb] at HC' ⊢
  clear ha hb HE
  go_enter Tryz.func31, Tryz.ntmps31
  go_upto_region 1 with fail
  obtain ⟨W, k, j, hk, hj, hW, hu, hb, hb'⟩ := e0
  rw [hW, hk, hj]
  have HU := hd hu
  have HB := hd hb
  have HB' := hd hb'
  have hc := hb.cell
  have hc' := hb'.cell
  clear hW hk hj hu hb hb'
  rcases a with _ | _
  · go_wp2_with fail
    refine (HC.out _).mono ?_
    rintro e w1 ⟨rfl, hu1⟩
    have hc1 := (HB.out.upd hu1 (by simp)).cell
    have hc1' := (HB'.out.upd hu1 (by simp)).cell
    have HU1 := hd (HU.out.trans hu1)
    clear hc hc' hu1
    go_wp2_with fail
    refine (HC'.out _).mono ?_
    rintro e w2 ⟨rfl, hu2⟩
    go_wp2_with fail
    go_ret
    exact ⟨by simp, HU1.out.trans hu2⟩
  · go_wp2_with fail
    refine (HC.out _).mono ?_
    rintro e w1 ⟨rfl, hu1⟩
    go_wp2_with fail
    go_ret
    exact ⟨by simp, HU.out.trans hu1⟩

/-- A path's text and its parts, as the statements' Made makes them. -/
theorem one_made (x : List UInt8) : madeL [x] = partL x := by unfold madeL; simp
set_option maxHeartbeats 8000000 in
theorem lmade_any (l : List (List UInt8)) (v : Value) (w : World) (hD : Door w) (hv : TxsAt w v l) (hl : ∀ x ∈ l, x.length ≤ 9223372036854775807) :
    Calls Tryz.prog 22 #[v] w fun e w' => ∃ u, e = .returned (.tuple #[.agg #[.string (txt (textL (mk6 l)))], u]) ∧ Upd [] w w' ∧ StrRow w.heap.size w' u (mk6 l) := by
  have HD := hd hD
  have HV := hd hv
  obtain ⟨a, c, rfl, hc, hm, -⟩ := hv
  have hb0 := Blk.new w #[.string ⟨#[]⟩] 40
  have e0 : ∃ W k, w.heap.size = k ∧ w.alloc (.cells #[.string ⟨#[]⟩] 40) = W ∧ Upd [] w W ∧ Blk W k #[.string ⟨#[]⟩] 40 := ⟨_, _, rfl, rfl, (Upd.refl _ _).alloc _, hb0⟩
  clear hD hb0
  go_enter Tryz.func22, Tryz.ntmps22
  go_upto_region 1 with fail
  obtain ⟨W0, k, hk, hW0, hu0, hb0⟩ := e0
  rw [hW0, hk]
  have HKL := hd (show w.heap.size ≤ k by omega)
  have HU0 := hd hu0
  have HB0 := hd hb0
  clear hW0 hk hu0 hb0
  go_upto_block 0 with fail
  go_cut [4] (fun s4 wx => Upd [] w wx ∧ Blk wx k #[.string ⟨#[]⟩] 40 ∧ StrRow w.heap.size wx s4 (mk6 l))
  case first =>
    go_wp2_with fail
    go_loopw [4, 5] (fun s4 s5 wr => ∃ t : Nat, s5 = .int .i64 t ∧ t ≤ l.length ∧ Upd [] w wr ∧ Blk wr k #[.string ⟨#[]⟩] 40 ∧ StrRow w.heap.size wr s4 (mk6 (l.take t))) (fun _ s5 _ => l.length - (intOf s5).toNat)
    case atStart => exact ⟨0, rfl, by omega, HU0.out, HB0.out, World.ownsRow_nil _ _ _ _⟩
    case round =>
      obtain ⟨t, rfl, ht, hu, hbk, hrow⟩ := hrel
      have HU := hd hu
      have HBK := hd hbk
      have HROW := hd hrow
      have HF := hd (mk6_fine (l.take t)).2
      obtain ⟨a4, c4, rfl, -⟩ := own_open hrow
      have HSZ := hd (show w.heap.size ≤ wr.heap.size from hu.size)
      clear hu hbk hrow
      by_cases htn : t < l.length
      · have htn' : (t : Int) < (l.length : Int) := by omega
        by_cases h6 : (mk6 (l.take t)).length < 6
        · have h6' : ((mk6 (l.take t)).length : Int) < 6 := by omega
          obtain ⟨a', c', e, q1, q2, q3⟩ := HV.out
          simp only [Value.slice.injEq] at e
          obtain ⟨rfl, -, rfl⟩ := e
          obtain ⟨kl, ol, rfl, hkl, hcl⟩ := q3 (by omega)
          have hc0 : wr.cell? ⟨kl, ol + t, none⟩ = some (.string (txt l[t])) := by rw [← hcl t htn]; exact World.cell?_of_block (HU.out.block kl hkl (by simp))
          have hx := hl l[t] (List.getElem_mem _)
          have hklw : kl < wr.heap.size := by have := HU.out.size; omega
          have HN := hd (mk6_next l t htn h6)
          have HRM := hd (rmade_any [l[t]] (.slice (some ⟨wr.heap.size, 0, none⟩) 1 1) (wr.alloc (.cells #[.string (txt l[t])] 9)) (blk_strs (l := [l[t]]) (Blk.new wr #[.string (txt l[t])] 9) rfl (by simp)) (by intro x hx'; simp at hx'; rw [hx']; exact hx))
          rw [one_made] at HRM
          have hc1 : (wr.alloc (.cells #[.string (txt l[t])] 9)).cell? ⟨kl, ol + t, none⟩ = some (.string (txt l[t])) := (World.cell?_alloc_lt _ _ ⟨kl, ol + t, none⟩ hklw).trans hc0
          have HL6 := hd h6
          clear hcl q3 h6
          generalize l[t] = x at *
          rcases hp : partL x with _ | _
          · rw [hp] at HRM HN
            simp only [Bool.false_eq_true, if_false] at HN
            clear hp
            go_wp2_with fail
            refine HRM.out.mono ?_
            rintro e w1 ⟨rfl, rfl⟩
            go_wp2_with fail
            go_roundw
            case rel => exact ⟨t + 1, by go_num, by omega, HU.out.alloc _, HBK.out.alloc _, by rw [HN.out]; exact own_upd (L := []) HROW.out ((Upd.refl _ _).alloc _) (by simp)⟩
            case measure => simp [intOf]; omega
          · rw [hp] at HRM HN
            simp only [if_true] at HN
            clear hp
            have hu5 : Upd [] wr (wr.alloc (.cells #[.string (txt x)] 9)) := (Upd.refl _ _).alloc _
            have HR5 := hd (own_upd (L := []) HROW.out hu5 (by simp))
            clear hu5
            go_wp2_with fail
            refine HRM.out.mono ?_
            rintro e w1 ⟨rfl, rfl⟩
            go_wp2_with (at_builtin; refine strAppend rfl (.tmp 25) (.tmp 30) rfl w.heap.size _ (mk6 (l.take t)) x rfl (own_upd (L := []) HR5.out ((Upd.refl _ _).alloc _) (by simp)) (wr.heap.size + 1) rfl (Blk.new' _ _ _ (by simp)) ?d1 ?d2 ?_)
            case d1 => have := HF.out; omega
            case d2 => have := HSZ.out; simp; omega
            intro v6 w6 hown6 hgr6 hblk6
            have hx5 : Upd (Value.slice a4 (mk6 (l.take t)).length c4).ownBlock.toList wr w6 := (((Upd.refl _ wr).alloc (.cells #[.string (txt x)] 9)).alloc (.cells #[.string (txt x)] 9)).trans hgr6
            have HU6 := hd (HU.out.trans' hx5 (fun i hi => .inr (own_ge HROW.out i (by simpa using hi)).1))
            have HB6 := hd (HBK.out.upd hx5 (fun hm => own_ne_any HROW.out HBK.out (by decide) k (by simpa using hm) rfl))
            have HO6 := hd hown6
            obtain ⟨a6, c6, rfl, -⟩ := own_open hown6
            clear hown6 hgr6 hblk6 hx5
            go_wp2_with fail
            go_roundw
            case rel => exact ⟨t + 1, by go_num, by omega, HU6.out, HB6.out, by rw [HN.out]; simpa using HO6.out⟩
            case measure => simp [intOf]; omega
        · have h6' : ¬ ((mk6 (l.take t)).length : Int) < 6 := by omega
          have HE := hd (mk6_end l t (by have := HF.out; omega))
          go_wp2_with fail
          go_meet
          case rel => exact ⟨HU.out, HBK.out, by rw [HE.out]; exact HROW.out⟩
      · have htn' : ¬ (t : Int) < (l.length : Int) := by omega
        have HE := hd (show l.take t = l from List.take_of_length_le (by omega))
        go_wp2_with fail
        go_meet
        case rel => exact ⟨HU.out, HBK.out, by have h := HROW.out; rw [HE.out] at h ⊢; exact h⟩
  case rest =>
    obtain ⟨hu, hb, hrow⟩ := hcut
    obtain ⟨a4, c4, rfl, -⟩ := own_open hrow
    have hfine := mk6_fine l
    have HPM := hd (pmade_any (mk6 l) _ _ (HD.out.later hu) (row_strs hrow) (fun x hx => by have := (part_short (hfine.1 x hx)).1; omega))
    have HM := hd (show made5 (mk6 l) = some (mk6 l) by
      unfold made5 madeL
      rw [List.all_eq_true.2 hfine.1, decide_eq_true hfine.2]
      rfl)
    rw [HM.out] at HPM
    have HU := hd hu
    have HB := hd hb
    have HROW := hd hrow
    clear hu hb hrow hfine
    go_wp2_with fail
    refine HPM.out.mono ?_
    rintro e w5 ⟨p, ev, rfl, hu5, rfl, rfl⟩
    have e5 : ∃ W6 j, w5.heap.size = j ∧ w5.alloc (.cells #[.string (txt (textL (mk6 l)))] 40) = W6 ∧ Upd [] w5 W6 ∧ Blk W6 j #[.string (txt (textL (mk6 l)))] 40 := ⟨_, _, rfl, rfl, (Upd.refl _ _).alloc _, Blk.new _ _ _⟩
    have hkw5 : k < w5.heap.size := Nat.lt_of_lt_of_le HB.out.lt hu5.size
    go_upto_region 8 with fail
    obtain ⟨W6, j, hj, hW6, hu6, hb6⟩ := e5
    rw [hW6, hj]
    have hbk := HB.out.upd (hu5.trans hu6) (by simp)
    have hx : Upd [k] W6 (W6.setCell ⟨k, 0, none⟩ (.string (txt (textL (mk6 l))))) := (Upd.refl _ _).setCell (by simp) _
    have HF := hd (((HU.out.trans hu5).trans hu6).trans' hx (by intro i hi; have := HKL.out; simp only [List.mem_cons, List.not_mem_nil, or_false] at hi; omega))
    have HR6 := hd (own_upd (L := []) HROW.out (hu5.trans hu6) (by simp))
    have HR7 := hd (own_upd HR6.out hx (fun i hi hm => by
      simp only [List.mem_cons, List.not_mem_nil, or_false] at hm
      subst hm
      exact own_ne_any HR6.out hbk (by decide) _ hi rfl))
    have HBF := hd (hbk.set 0 (.string (txt (textL (mk6 l)))))
    have hkc := hbk.cell
    have hkz := hbk.frozen
    have hjc := hb6.cell
    have hjk : ¬ k = j := by omega
    clear hu5 hu6 hb6 hbk hW6 hj hx hkw5
    go_wp2_with fail
    refine bodyPost_ret (results_path _ rfl _ _ k _ rfl HBF.out) rfl ?_
    exact ⟨_, rfl, HF.out, HR7.out⟩
end Go.Proofs.YtpniggmdokkkcaaGreatDoor
