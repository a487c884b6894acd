/-
  The law TwinOpens of layer 12 (chatelainelaw12.TwinOpens), walked: it answers true. No condition.
-/
import Derived.Test.YtjaoiaknglnomaaRef12b
import Derived.Test.YtjaoiaknglnomaaCounts12
set_option linter.unusedVariables false
set_option linter.unusedSimpArgs false
set_option maxRecDepth 100000
namespace Go.Proofs.Ytjaoiaknglnomaa
open Go.RowKit

theorem put_ok (d : DiskS) (f : Nat) (s : List UInt8) (hf : f < 4) (h0 : d.fail = 0) (hr : ((d.used + max s.length (d.get f).sure.size : Nat) : Int) ≤ d.room) : d.putIt f (txt s) = (0, d.set f ⟨txt s, (d.get f).sure, true⟩) := by
  obtain ⟨t1, t2⟩ := try_ok d f (by omega) (by omega) h0
  have hfit : d.layFits f ⟨txt s, (d.get f).sure, true⟩ = true := by
    simp only [DiskS.layFits, FileS.weight, txt_size, decide_eq_true_iff]
    omega
  unfold DiskS.putIt
  rw [if_pos t1, t2, Int.toNat_natCast]
  unfold DiskS.laid
  rw [if_pos hfit]
theorem sync_ok (d : DiskS) (f : Nat) (hf : f < 4) (h0 : d.fail = 0) : d.syncIt f = (0, d.set f ⟨(d.get f).now, (d.get f).now, false⟩) := by
  obtain ⟨t1, t2⟩ := try_ok d f (by omega) (by omega) h0
  unfold DiskS.syncIt
  rw [if_pos t1, t2, Int.toNat_natCast]

/-- A disk of which two files have that. -/
def laidD (f : Nat) (a b : List UInt8) : DiskS := ((bareD 5000).set f (sureF a)).set (f + 1) (sureF b)
theorem lay_two (f : Nat) (hf : f ≤ 2) (a b : List UInt8) (ha : a.length ≤ 200) (hb : b.length ≤ 200) : ∃ D1 D2 D3, D1.fine ∧ D2.fine ∧ D3.fine ∧ (laidD f a b).fine ∧
    (bareD 5000).putIt f (txt a) = (0, D1) ∧ D1.putIt ((f : Int) + 1) (txt b) = (0, D2) ∧ D2.syncIt f = (0, D3) ∧ D3.syncIt ((f : Int) + 1) = (0, laidD f a b) := by
  have hfine := bare_fine 5000 (by decide)
  have e : ((f : Int) + 1) = ((f + 1 : Nat) : Int) := by omega
  have h0 : (⟨#[]⟩ : ByteArray).size = 0 := rfl
  have hg : ∀ k, ((bareD 5000).get k).sure.size = 0 ∧ ((bareD 5000).get k).now.size = 0 := fun k => by
    match k with
    | 0 => exact ⟨rfl, rfl⟩
    | 1 => exact ⟨rfl, rfl⟩
    | 2 => exact ⟨rfl, rfl⟩
    | n + 3 => exact ⟨rfl, rfl⟩
  have g1 : ∀ x : FileS, (((bareD 5000).set f x).get (f + 1)).sure.size = 0 := fun x => by
    rcases (by omega : f = 0 ∨ f = 1 ∨ f = 2) with rfl | rfl | rfl <;> rfl
  have p1 := put_ok (bareD 5000) f a (by omega) rfl (by
    rw [(hg f).1, show (bareD 5000).used = 0 from rfl, show (bareD 5000).room = 5000 from rfl]; omega)
  have f1 := put_fine (bareD 5000) f (txt a) hfine (by rw [txt_size]; omega)
  rw [p1] at f1
  have u1 := used_set (bareD 5000) f ⟨txt a, ((bareD 5000).get f).sure, true⟩
  have w1 : (⟨txt a, ((bareD 5000).get f).sure, true⟩ : FileS).weight ≤ 200 := by unfold FileS.weight; simp only [txt_size, (hg f).1]; omega
  have r1 := set_rest (bareD 5000) f ⟨txt a, ((bareD 5000).get f).sure, true⟩
  have p2 := put_ok ((bareD 5000).set f ⟨txt a, ((bareD 5000).get f).sure, true⟩) (f + 1) b (by omega) (by rw [r1.2]; rfl) (by
    rw [g1, r1.1, show (bareD 5000).room = 5000 from rfl]
    rw [show (bareD 5000).used = 0 from rfl] at u1
    omega)
  have f2 := put_fine _ ((f + 1 : Nat) : Int) (txt b) f1 (by rw [txt_size]; omega)
  rw [p2] at f2
  have q1 := sync_ok (((bareD 5000).set f ⟨txt a, ((bareD 5000).get f).sure, true⟩).set (f + 1) ⟨txt b, (((bareD 5000).set f ⟨txt a, ((bareD 5000).get f).sure, true⟩).get (f + 1)).sure, true⟩) f (by omega) (by rw [(set_rest _ _ _).2, (set_rest _ _ _).2]; rfl)
  have f3 := sync_fine _ (f : Int) f2
  rw [q1] at f3
  have q2 := sync_ok ((((bareD 5000).set f ⟨txt a, ((bareD 5000).get f).sure, true⟩).set (f + 1) ⟨txt b, (((bareD 5000).set f ⟨txt a, ((bareD 5000).get f).sure, true⟩).get (f + 1)).sure, true⟩).set f (sureF a)) (f + 1) (by omega) (by rw [(set_rest _ _ _).2, (set_rest _ _ _).2, (set_rest _ _ _).2]; rfl)
  have e3 : ((((bareD 5000).set f ⟨txt a, ((bareD 5000).get f).sure, true⟩).set (f + 1) ⟨txt b, (((bareD 5000).set f ⟨txt a, ((bareD 5000).get f).sure, true⟩).get (f + 1)).sure, true⟩).set f ⟨(((((bareD 5000).set f ⟨txt a, ((bareD 5000).get f).sure, true⟩).set (f + 1) ⟨txt b, (((bareD 5000).set f ⟨txt a, ((bareD 5000).get f).sure, true⟩).get (f + 1)).sure, true⟩)).get f).now, (((((bareD 5000).set f ⟨txt a, ((bareD 5000).get f).sure, true⟩).set (f + 1) ⟨txt b, (((bareD 5000).set f ⟨txt a, ((bareD 5000).get f).sure, true⟩).get (f + 1)).sure, true⟩)).get f).now, false⟩)
      = ((((bareD 5000).set f ⟨txt a, ((bareD 5000).get f).sure, true⟩).set (f + 1) ⟨txt b, (((bareD 5000).set f ⟨txt a, ((bareD 5000).get f).sure, true⟩).get (f + 1)).sure, true⟩).set f (sureF a)) := by
    rw [get_set_next _ _ _ _ hf]; rfl
  rw [e3] at q1 f3
  have f4 := sync_fine _ ((f + 1 : Nat) : Int) f3
  rw [q2] at f4
  have e4 : ((((((bareD 5000).set f ⟨txt a, ((bareD 5000).get f).sure, true⟩).set (f + 1) ⟨txt b, (((bareD 5000).set f ⟨txt a, ((bareD 5000).get f).sure, true⟩).get (f + 1)).sure, true⟩).set f (sureF a))).set (f + 1) ⟨(((((((bareD 5000).set f ⟨txt a, ((bareD 5000).get f).sure, true⟩).set (f + 1) ⟨txt b, (((bareD 5000).set f ⟨txt a, ((bareD 5000).get f).sure, true⟩).get (f + 1)).sure, true⟩).set f (sureF a)))).get (f + 1)).now, (((((((bareD 5000).set f ⟨txt a, ((bareD 5000).get f).sure, true⟩).set (f + 1) ⟨txt b, (((bareD 5000).set f ⟨txt a, ((bareD 5000).get f).sure, true⟩).get (f + 1)).sure, true⟩).set f (sureF a)))).get (f + 1)).now, false⟩) = laidD f a b := by
    rcases (by omega : f = 0 ∨ f = 1 ∨ f = 2) with rfl | rfl | rfl <;> rfl
  rw [e4] at q2 f4
  refine ⟨_, _, _, f1, f2, f3, f4, p1, ?_, q1, ?_⟩
  · rw [e]; exact p2
  · rw [e]; exact q2
theorem laid_file0 (f : Nat) (a b : List UInt8) (hf : f ≤ 2) : (laidD f a b).file f = a := by
  rw [file_get _ _ (by omega)]
  unfold laidD
  rw [get_set_next _ _ _ _ hf]
  simp [sureF, txt]
theorem laid_file1 (f : Nat) (a b : List UInt8) (hf : f ≤ 2) : (laidD f a b).file ((f : Int) + 1) = b := by
  rw [show ((f : Int) + 1) = ((f + 1 : Nat) : Int) by omega, file_get _ _ (by omega)]
  unfold laidD
  rw [get_set]
  simp [sureF, txt]
theorem laid_used (f : Nat) (a b : List UInt8) : (laidD f a b).used ≤ a.length + b.length := by
  have h1 := used_set (bareD 5000) f (sureF a)
  have h2 := used_set ((bareD 5000).set f (sureF a)) (f + 1) (sureF b)
  rw [weight_sure] at h1 h2
  rw [show (bareD 5000).used = 0 from rfl] at h1
  unfold laidD
  omega
theorem laid_set0 (f : Nat) (a b x : List UInt8) (hf : f ≤ 2) : (laidD f a b).set f (sureF x) = laidD f x b := by
  rcases (by omega : f = 0 ∨ f = 1 ∨ f = 2) with rfl | rfl | rfl <;> rfl
theorem laid_set1 (f : Nat) (a b x : List UInt8) (hf : f ≤ 2) : (laidD f a b).set (f + 1) (sureF x) = laidD f a x := by
  rcases (by omega : f = 0 ∨ f = 1 ∨ f = 2) with rfl | rfl | rfl <;> rfl
theorem laid_rest (f : Nat) (a b : List UInt8) : (laidD f a b).room = 5000 ∧ (laidD f a b).fail = 0 := by
  unfold laidD
  rw [(set_rest _ _ _).1, (set_rest _ _ _).1, (set_rest _ _ _).2, (set_rest _ _ _).2]
  exact ⟨rfl, rfl⟩
theorem mend_two (f : Nat) (hf : f ≤ 2) (A B : List UInt8) (hA : A.length ≤ 200) (hB : B.length ≤ 200) (best : HalfS) (hb : best = parseL A ∨ best = parseL B) (hv : best.version ≠ 0) :
    (laidD f A B).mendIt f (parseL A) (parseL B) best = (0, laidD f (spellL best.version best.text) (spellL best.version best.text)) := by
  have hS : ∀ X, parseL X = best → X = spellL best.version best.text := fun X hx => by
    have := parse_inv X (by rw [hx]; exact hv)
    rw [hx] at this
    exact this.1
  have hSl : (spellL best.version best.text).length ≤ 200 := by
    rcases hb with h | h
    · rw [← hS A h.symm]; exact hA
    · rw [← hS B h.symm]; exact hB
  obtain ⟨hr, h0⟩ := laid_rest f A B
  have hu := laid_used f A B
  have e1 : (if parseL A ≠ best then (laidD f A B).layIt f best.version best.text else (0, laidD f A B)) = (0, laidD f (spellL best.version best.text) B) := by
    by_cases h : parseL A = best
    · rw [if_neg (fun q => q h)]
      rw [← hS A h]
    · rw [if_pos h]
      have := lay_ok (laidD f A B) f best.version best.text (by omega) (by omega) h0 (by rw [hr]; omega)
      rw [Int.toNat_natCast, laid_set0 f _ _ _ hf] at this
      exact this
  have hu2 := laid_used f (spellL best.version best.text) B
  obtain ⟨hr2, h02⟩ := laid_rest f (spellL best.version best.text) B
  have e2 : (if parseL B ≠ best then (laidD f (spellL best.version best.text) B).layIt ((f : Int) + 1) best.version best.text else (0, laidD f (spellL best.version best.text) B)) = (0, laidD f (spellL best.version best.text) (spellL best.version best.text)) := by
    by_cases h : parseL B = best
    · rw [if_neg (fun q => q h)]
      have hSB := hS B h
      rw [← hSB]
    · rw [if_pos h]
      have := lay_ok (laidD f (spellL best.version best.text) B) ((f : Int) + 1) best.version best.text (by omega) (by omega) h02 (by rw [hr2]; omega)
      rw [show ((f : Int) + 1).toNat = f + 1 by omega, laid_set1 f _ _ _ hf] at this
      exact this
  unfold DiskS.mendIt
  simp only
  rw [e1]
  simp only
  rw [if_neg (fun h => h rfl)]
  exact e2
/-- Open does as the reference. -/
theorem opens_all (f : Nat) (hf : f ≤ 2) (A B : List UInt8) (hA : A.length ≤ 200) (hB : B.length ≤ 200) :
    ((refOpenL A B).2.2 = 7 ∧ (laidD f A B).openIt f = (none, [], 7, laidD f A B)) ∨
    ((refOpenL A B).2.2 = 0 ∧ (refOpenL A B).1 = 0 ∧ (laidD f A B).openIt f = (some (refOpenL A B).1, (refOpenL A B).2.1, 0, laidD f A B)) ∨
    ((refOpenL A B).2.2 = 0 ∧ (refOpenL A B).1 ≠ 0 ∧ (laidD f A B).openIt f = (some (refOpenL A B).1, (refOpenL A B).2.1, 0, laidD f (spellL (refOpenL A B).1 (refOpenL A B).2.1) (spellL (refOpenL A B).1 (refOpenL A B).2.1))) := by
  have hm := mend_two f hf A B hA hB
  unfold DiskS.openIt
  rw [laid_file0 f A B hf, laid_file1 f A B hf]
  simp only
  unfold refOpenL
  generalize parseL A = a at *
  generalize parseL B = b at *
  by_cases h1 : b.bad = true ∧ a.version = 0
  · rw [if_pos h1, if_pos h1]
    exact .inl ⟨rfl, rfl⟩
  · rw [if_neg h1, if_neg h1]
    by_cases h2 : a.version = 0 ∧ b.version = 0
    · rw [if_pos h2, if_pos h2]
      exact .inr (.inl ⟨rfl, rfl, rfl⟩)
    · rw [if_neg h2, if_neg h2]
      right; right
      by_cases h3 : a.version < b.version
      · rw [if_pos h3]
        have h4 : b.version ≠ 0 := by omega
        refine ⟨rfl, h4, ?_⟩
        rw [if_pos h3, hm b (.inr rfl) h4]
        simp
      · rw [if_neg h3]
        have h4 : a.version ≠ 0 := by omega
        refine ⟨rfl, h4, ?_⟩
        rw [if_neg h3, hm a (.inl rfl) h4]
        simp
theorem laid_read (f : Nat) (hf : f ≤ 2) (S : List UInt8) : (laidD f S S).readIt f = (txt S, 0) ∧ (laidD f S S).readIt ((f : Int) + 1) = (txt S, 0) ∧ (laidD f S S).sureIt f = true ∧ (laidD f S S).sureIt ((f : Int) + 1) = true := by
  rcases (by omega : f = 0 ∨ f = 1 ∨ f = 2) with rfl | rfl | rfl <;> exact ⟨rfl, rfl, sure_same S, sure_same S⟩
where sure_same (S : List UInt8) : ((txt S).toList == (txt S).toList) = true := by simp
theorem refOpenL_fine (A B : List UInt8) : (refOpenL A B).1 < 18446744073709551616 ∧ (refOpenL A B).2.1.length ≤ 524288 := by
  have h1 := parseL_fine A
  have h2 := parseL_fine B
  unfold refOpenL
  split
  · exact ⟨by decide, by decide⟩
  · split
    · exact ⟨by decide, by decide⟩
    · split
      · exact h2
      · exact h1

theorem topen_bad (first : Int) (v : Value) (w : World) (h : first < 0 ∨ 2 < first) :
    Calls Try.prog 26 #[v, .int .i64 first] w fun x w' => x = .returned (.tuple #[.pointer none, .string ⟨#[]⟩, .int .i64 1]) ∧ w = w' := by
  rcases h with h | h
  · go_enter Try.func26, Try.ntmps26
    go_wp2_with fail
    go_ret3
    exact ⟨rfl, rfl⟩
  · have h' : ¬ first < 0 := by omega
    go_enter Try.func26, Try.ntmps26
    go_wp2_with fail
    go_ret3
    exact ⟨rfl, rfl⟩

set_option maxHeartbeats 8000000 in
theorem opens_law (sa sb : List UInt8) (first : Int) (w : World) (hsa : sa.length ≤ 9223372036854775807) (hsb : sb.length ≤ 9223372036854775807) :
    Calls Try.prog 6 #[.string (txt sa), .string (txt sb), .int .i64 first] w fun e w' => e = .returned (.bool true) ∧ Upd [] w w' := by
  have HCA := hd (fun W => cut_any sa 200 W hsa (by decide))
  have HCB := hd (fun W => cut_any sb 200 W hsb (by decide))
  have hla : (sa.take 200).length ≤ 200 := by rw [List.length_take]; omega
  have hlb : (sb.take 200).length ≤ 200 := by rw [List.length_take]; omega
  generalize sa.take 200 = A at *
  generalize sb.take 200 = B at *
  clear hsa hsb
  go_enter Try.func6, Try.ntmps6
  go_wp2_with fail
  refine (awake12_any w).mono ?_
  rintro e w1 ⟨rfl, hu1⟩
  have HU1 := hd hu1
  clear hu1
  go_wp2_with fail
  refine (HCA.out w1).mono ?_
  rintro e w2 ⟨rfl, rfl⟩
  go_wp2_with fail
  refine (HCB.out w1).mono ?_
  rintro e w2 ⟨rfl, rfl⟩
  go_wp2_with fail
  refine (new_any 5000 w1).mono ?_
  rintro e w2 ⟨b, rfl, hb, hu2, hd2⟩
  have hd2 : DiskAt w2 b (bareD 5000) := hd2
  have HB := hd (Nat.le_trans HU1.out.size hb)
  have HU2 := hd (HU1.out.trans hu2)
  have HD2 := hd hd2
  clear hb hu2 hd2 HU1
  by_cases h0 : first < 0
  · go_wp2_with fail
    refine (topen_bad first _ w2 (.inl h0)).mono ?_
    rintro e w3 ⟨rfl, rfl⟩
    go_wp2_with fail
    go_ret
    exact ⟨rfl, HU2.out⟩
  · by_cases h2 : 2 < first
    · go_wp2_with fail
      refine (topen_bad first _ w2 (.inr h2)).mono ?_
      rintro e w3 ⟨rfl, rfl⟩
      go_wp2_with fail
      go_ret
      exact ⟨rfl, HU2.out⟩
    · obtain ⟨f, rfl⟩ : ∃ f : Nat, first = f := ⟨first.toNat, by omega⟩
      have hf : f ≤ 2 := by omega
      have hfi : (f : Int) ≤ 2 := by omega
      obtain ⟨D1, D2, D3, f1, f2, f3, f4, p1, p2, q1, q2⟩ := lay_two f hf A B hla hlb
      have HP1 := hd p1
      have HP2 := hd p2
      have HQ1 := hd q1
      have HQ2 := hd q2
      have HF1 := hd f1
      have HF2 := hd f2
      have HF3 := hd f3
      have HF4 := hd f4
      clear p1 p2 q1 q2 f1 f2 f3 f4
      go_wp2_with fail
      refine (put_any (bareD 5000) f (txt A) w2 b HD2.out (bare_fine 5000 (by decide)) (by rw [txt_size]; omega)).mono ?_
      rintro e w3 ⟨rfl, hu3, hd3⟩
      rw [HP1.out] at hd3 ⊢
      have HU3 := hd (HU2.out.trans' hu3 (by intro i hi; have := HB.out; simp at hi; omega))
      have HD3 := hd hd3
      clear hu3 hd3
      go_wp2_with fail
      refine (put_any D1 ((f : Int) + 1) (txt B) w3 b HD3.out HF1.out (by rw [txt_size]; omega)).mono ?_
      rintro e w4 ⟨rfl, hu4, hd4⟩
      rw [HP2.out] at hd4 ⊢
      have HU4 := hd (HU3.out.trans' hu4 (by intro i hi; have := HB.out; simp at hi; omega))
      have HD4 := hd hd4
      clear hu4 hd4
      go_wp2_with fail
      refine (sync_any D2 f w4 b HD4.out HF2.out).mono ?_
      rintro e w5 ⟨rfl, hu5, hd5⟩
      rw [HQ1.out] at hd5 ⊢
      have HU5 := hd (HU4.out.trans' hu5 (by intro i hi; have := HB.out; simp at hi; omega))
      have HD5 := hd hd5
      clear hu5 hd5
      go_wp2_with fail
      refine (sync_any D3 ((f : Int) + 1) w5 b HD5.out HF3.out).mono ?_
      rintro e w6 ⟨rfl, hu6, hd6⟩
      rw [HQ2.out] at hd6 ⊢
      have HU6 := hd (HU5.out.trans' hu6 (by intro i hi; have := HB.out; simp at hi; omega))
      have HD6 := hd hd6
      clear hu6 hd6
      have hall := opens_all f hf A B hla hlb
      have HRO := hd (fun W => refOpen12_any A B W (by omega) (by omega))
      obtain ⟨hrv, hrt⟩ := refOpenL_fine A B
      have HRV := hd hrv
      generalize refOpenL A B = R at *
      obtain ⟨rv, rt, re⟩ := R
      simp only at hall HRO HRV hrt
      clear hrv
      go_wp2_with fail
      refine (topen_any (laidD f A B) f b w6 HD6.out HF4.out (by omega) (by omega)).mono ?_
      rintro e w7 ⟨ho, hu7, hd7⟩
      have HU7 := hd (HU6.out.trans' hu7 (by intro i hi; have := HB.out; simp at hi; omega))
      clear hu7
      rcases hall with ⟨rfl, hq⟩ | ⟨rfl, rfl, hq⟩ | ⟨rfl, hv0, hq⟩
      · rw [hq] at ho hd7
        obtain rfl := ho
        clear hq hd7
        have hte : (txt []).toList = [] := txt_list []
        go_wp2_with fail
        refine (HRO.out w7).mono ?_
        rintro e w8 ⟨rfl, hu8⟩
        go_wp2_with fail
        go_ret
        exact ⟨rfl, HU7.out.trans hu8⟩
      · rw [hq] at ho hd7
        obtain ⟨kc, hkc, rfl, hc7⟩ := ho
        have HC7 := hd hc7
        clear hq hd7 hkc hc7
        go_wp2_with fail
        refine (HRO.out w7).mono ?_
        rintro e w8 ⟨rfl, hu8⟩
        have HC8 := hd (HC7.out.upd hu8 (by simp))
        go_wp2_with fail
        refine (version_any kc b f 0 w8 HC8.out).mono ?_
        rintro e w9 ⟨rfl, rfl⟩
        go_wp2_with fail
        go_ret
        exact ⟨rfl, HU7.out.trans hu8⟩
      · rw [hq] at ho hd7
        obtain ⟨kc, hkc, rfl, hc7⟩ := ho
        have HC7 := hd hc7
        have HD7 := hd hd7
        clear hq hd7 hkc hc7
        have hv0' : ((rv : Int) == 0) = false := by simp; omega
        have HSP := hd (fun W => refSpell_any rv rt W HRV.out (by omega))
        obtain ⟨g1, g2, g3, g4⟩ := laid_read f hf (spellL rv rt)
        have HG1 := hd g1
        have HG2 := hd g2
        have HG3 := hd g3
        have HG4 := hd g4
        clear g1 g2 g3 g4 hv0
        generalize spellL rv rt = S at *
        go_wp2_with fail
        refine (HRO.out w7).mono ?_
        rintro e w8 ⟨rfl, hu8⟩
        have HC8 := hd (HC7.out.upd hu8 (by simp))
        have HD8 := hd (HD7.out.upd hu8 (by simp))
        have HU8 := hd (HU7.out.trans hu8)
        clear hu8
        go_wp2_with fail
        refine (version_any kc b f rv w8 HC8.out).mono ?_
        rintro e w9 ⟨rfl, rfl⟩
        go_wp2_with fail
        refine (read_any (laidD f S S) f w8 b HD8.out).mono ?_
        rintro e w9 ⟨rfl, hu9⟩
        rw [HG1.out]
        have HD9 := hd (HD8.out.upd hu9 (by simp))
        have HU9 := hd (HU8.out.trans hu9)
        clear hu9
        go_wp2_with fail
        refine (read_any (laidD f S S) ((f : Int) + 1) w9 b HD9.out).mono ?_
        rintro e w10 ⟨rfl, hu10⟩
        rw [HG2.out]
        have HD10 := hd (HD9.out.upd hu10 (by simp))
        have HU10 := hd (HU9.out.trans hu10)
        clear hu10
        go_wp2_with fail
        refine (HSP.out w10).mono ?_
        rintro e w11 ⟨rfl, hu11⟩
        have HD11 := hd (HD10.out.upd hu11 (by simp))
        have HU11 := hd (HU10.out.trans hu11)
        clear hu11
        go_wp2_with fail
        refine (sure_any (laidD f S S) f w11 b HD11.out).mono ?_
        rintro e w12 ⟨rfl, hu12⟩
        rw [HG3.out]
        have HD12 := hd (HD11.out.upd hu12 (by simp))
        have HU12 := hd (HU11.out.trans hu12)
        clear hu12
        go_wp2_with fail
        refine (sure_any (laidD f S S) ((f : Int) + 1) w12 b HD12.out).mono ?_
        rintro e w13 ⟨rfl, hu13⟩
        rw [HG4.out]
        go_wp2_with fail
        go_ret
        exact ⟨rfl, HU12.out.trans hu13⟩
end Go.Proofs.Ytjaoiaknglnomaa
