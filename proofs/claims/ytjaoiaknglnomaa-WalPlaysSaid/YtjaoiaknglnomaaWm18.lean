/-
  A write that a failing call and a crash cut off: what the next Open answers. Plain laws; no program in sight.
-/
import Derived.Test.YtjaoiaknglnomaaWm12
import Derived.Test.YtjaoiaknglnomaaWm17
set_option linter.unusedVariables false
set_option linter.unusedSimpArgs false
namespace Go.Proofs.Ytjaoiaknglnomaa

theorem open_second (d : DiskS) (first v : Nat) (s : List UInt8) (bd : Bool) (hf : first ≤ 2) (h1 : parseL (d.file first) = ⟨0, [], bd⟩) (h2 : parseL (d.file ((first : Int) + 1)) = ⟨v, s, false⟩) (hv : v ≠ 0) (h0 : d.fail = 0) (hr : ((d.used + (spellL v s).length : Nat) : Int) ≤ d.room) :
    d.openIt first = (some v, s, 0, d.set first (sureF (spellL v s))) := by
  have e1 := lay_ok d first v s (by omega) (by omega) h0 hr
  rw [Int.toNat_natCast] at e1
  have hlt : (0 : Nat) < v := by omega
  have hm : d.mendIt first ⟨0, [], bd⟩ ⟨v, s, false⟩ ⟨v, s, false⟩ = (0, d.set first (sureF (spellL v s))) := by
    have hne : (⟨0, [], bd⟩ : HalfS) ≠ ⟨v, s, false⟩ := by intro e; injection e with e1 _ _; omega
    unfold DiskS.mendIt
    simp only
    rw [if_pos hne, e1]
    simp
  unfold DiskS.openIt
  rw [h1, h2]
  simp only
  rw [if_neg (by simp), if_neg (by simp [hv]), if_pos hlt, hm]
  simp
theorem open_first (d : DiskS) (first v : Nat) (s : List UInt8) (b : HalfS) (hf : first ≤ 2) (h1 : parseL (d.file first) = ⟨v, s, false⟩) (h2 : parseL (d.file ((first : Int) + 1)) = b) (hv : b.version < v) (h0 : d.fail = 0) (hr : ((d.used + (spellL v s).length : Nat) : Int) ≤ d.room) :
    d.openIt first = (some v, s, 0, d.set (first + 1) (sureF (spellL v s))) := by
  have e1 := lay_ok d ((first : Int) + 1) v s (by omega) (by omega) h0 hr
  rw [show ((first : Int) + 1).toNat = first + 1 by omega] at e1
  have hlt : ¬ v < b.version := by omega
  have hm : d.mendIt first ⟨v, s, false⟩ b ⟨v, s, false⟩ = (0, d.set (first + 1) (sureF (spellL v s))) := by
    have hne : b ≠ ⟨v, s, false⟩ := by intro e; rw [e] at hv; exact Nat.lt_irrefl _ hv
    have hs : (if (⟨v, s, false⟩ : HalfS) ≠ ⟨v, s, false⟩ then d.layIt first v s else (0, d)) = (0, d) := if_neg (fun h => h rfl)
    unfold DiskS.mendIt
    simp only
    rw [hs]
    simp only
    rw [if_neg (fun h => h rfl), if_pos hne, e1]
  unfold DiskS.openIt
  rw [h1, h2]
  simp only
  rw [if_neg (fun h => by omega), if_neg (fun h => by omega), if_neg hlt, hm]
  simp

/-- A disk of which two files are used. -/
def twoD (x y : FileS) (fl : Int) : DiskS := ⟨x, y, sureF [], sureF [], 10000, fl⟩
theorem bare_two : bareD 10000 = twoD (sureF []) (sureF []) 0 := rfl
theorem two_file0 (x : List UInt8) (y : FileS) (fl : Int) : (twoD (sureF x) y fl).file (0 : Nat) = x := by
  rw [file_get _ _ (by omega)]; simp [twoD, DiskS.get, sureF, txt]
theorem two_file1 (x : FileS) (y : List UInt8) (fl : Int) : (twoD x (sureF y) fl).file (((0 : Nat) : Int) + 1) = y := by
  rw [show (((0 : Nat) : Int) + 1) = ((1 : Nat) : Int) by omega, file_get _ _ (by omega)]; simp [twoD, DiskS.get, sureF, txt]
theorem two_used (x y : FileS) (fl : Int) : (twoD x y fl).used = x.weight + y.weight := by
  simp [twoD, DiskS.used, FileS.weight, sureF]
theorem sure_small (x : List UInt8) (h : x.length ≤ 1099511627776) : (sureF x).small := by
  constructor <;> simpa only [sureF, txt_size] using h
theorem two_fine (x y : FileS) (fl : Int) (hx : x.small) (hy : y.small) (h0 : 0 ≤ fl) (h1 : fl ≤ 1073741825) : (twoD x y fl).fine :=
  ⟨⟨hx, hy, sure_small [] (by simp), sure_small [] (by simp)⟩, (by decide : (10000 : Int) ≤ 1099511627776), h0, h1⟩
/-- The count of calls till one fails is another. -/
def DiskS.till (d : DiskS) (F : Int) : DiskS := { d with fail := F }
theorem till_get (d : DiskS) (F : Int) (k : Nat) : (d.till F).get k = d.get k := by
  match k with
  | 0 => rfl
  | 1 => rfl
  | 2 => rfl
  | n + 3 => rfl
theorem put_fail (d : DiskS) (k : Nat) (N : ByteArray) (hk : k < 4) (hF : 1 ≤ d.fail) (hfit : ∀ G, (d.till G).layFits k ⟨N, (d.get k).sure, true⟩ = true) :
    d.putIt k N = if d.fail = 1 then (8, d.till 0) else (0, (d.till (d.fail - 1)).set k ⟨N, (d.get k).sure, true⟩) := by
  have hr : 0 ≤ (k : Int) ∧ (k : Int) < 4 := ⟨by omega, by omega⟩
  have hT : d.tried k = d.till (tryRes d.fail k).2 := rfl
  unfold DiskS.putIt
  rw [Int.toNat_natCast]
  by_cases h1 : d.fail = 1
  · have e : tryRes d.fail k = (8, 0) := by unfold tryRes; rw [if_pos hr, if_neg (by omega), if_pos (by omega)]
    rw [if_pos h1, hT, e]
    rfl
  · have e : tryRes d.fail k = (0, d.fail - 1) := by unfold tryRes; rw [if_pos hr, if_neg (by omega), if_neg (by omega)]
    have hl : (d.till (d.fail - 1)).laid k ⟨N, (d.get k).sure, true⟩ = (0, (d.till (d.fail - 1)).set k ⟨N, (d.get k).sure, true⟩) := if_pos (hfit _)
    rw [if_neg h1, hT, e]
    exact hl
theorem sync_fail (d : DiskS) (k : Nat) (hk : k < 4) (hF : 1 ≤ d.fail) :
    d.syncIt k = if d.fail = 1 then (8, d.till 0) else (0, (d.till (d.fail - 1)).set k ⟨(d.get k).now, (d.get k).now, false⟩) := by
  have hr : 0 ≤ (k : Int) ∧ (k : Int) < 4 := ⟨by omega, by omega⟩
  have hT : d.tried k = d.till (tryRes d.fail k).2 := rfl
  unfold DiskS.syncIt
  rw [Int.toNat_natCast]
  by_cases h1 : d.fail = 1
  · have e : tryRes d.fail k = (8, 0) := by unfold tryRes; rw [if_pos hr, if_neg (by omega), if_pos (by omega)]
    rw [if_pos h1, hT, e]
    rfl
  · have e : tryRes d.fail k = (0, d.fail - 1) := by unfold tryRes; rw [if_pos hr, if_neg (by omega), if_neg (by omega)]
    rw [if_neg h1, hT, e]
    rfl
theorem set_till (d : DiskS) (k : Nat) (x : FileS) (F : Int) : (d.set k x).till F = (d.till F).set k x := by
  match k with
  | 0 => rfl
  | 1 => rfl
  | 2 => rfl
  | n + 3 => rfl
theorem till_till (d : DiskS) (F G : Int) : (d.till F).till G = d.till G := rfl
/-- What lay answers and leaves while a call is going to fail. -/
theorem lay_fail (d : DiskS) (k v : Nat) (s : List UInt8) (hk : k < 4) (hF : 1 ≤ d.fail) (hfit : ∀ G, (d.till G).layFits k ⟨txt (spellL v s), (d.get k).sure, true⟩ = true) :
    d.layIt k v s = if d.fail = 1 then (8, d.till 0) else if d.fail = 2 then (8, (d.till 0).set k ⟨txt (spellL v s), (d.get k).sure, true⟩) else (0, (d.till (d.fail - 2)).set k (sureF (spellL v s))) := by
  have hp := put_fail d k (txt (spellL v s)) hk hF hfit
  unfold DiskS.layIt
  by_cases h1 : d.fail = 1
  · rw [if_pos h1] at hp ⊢
    rw [hp]
    exact if_neg (show ¬ ((8 : Int) = 0) by decide)
  · rw [if_neg h1] at hp ⊢
    have hff : ((d.till (d.fail - 1)).set k ⟨txt (spellL v s), (d.get k).sure, true⟩).fail = d.fail - 1 := (set_rest _ _ _).2
    have hy := sync_fail ((d.till (d.fail - 1)).set k ⟨txt (spellL v s), (d.get k).sure, true⟩) k hk (by rw [hff]; omega)
    rw [hff, get_set, set_till, till_till, set_till, till_till, set_set] at hy
    rw [hp, if_pos rfl, hy]
    by_cases h2 : d.fail = 2
    · rw [if_pos h2, if_pos (by omega)]
    · rw [if_neg h2, if_neg (by omega), show d.fail - 1 - 1 = d.fail - 2 by omega]
      rfl
theorem two_fits (x y : FileS) (F : Int) (k : Nat) (hk : k < 2) (hx : x.weight ≤ 110) (hy : y.weight ≤ 110) (N : ByteArray) (hN : N.size ≤ 110) : ∀ G, ((twoD x y F).till G).layFits k ⟨N, ((twoD x y F).get k).sure, true⟩ = true := by
  intro G
  have hu : ((twoD x y F).till G).used = x.weight + y.weight := two_used x y G
  have hr : ((twoD x y F).till G).room = 10000 := rfl
  have key : ∀ z : FileS, z.weight ≤ 110 → (⟨N, z.sure, true⟩ : FileS).weight ≤ 110 := fun z hz => by
    unfold FileS.weight at *
    simp only
    omega
  unfold DiskS.layFits
  rw [decide_eq_true_iff, hu, hr]
  have h1 := key x hx
  have h2 := key y hy
  rcases (by omega : k = 0 ∨ k = 1) with rfl | rfl
  · right
    have : (⟨N, ((twoD x y F).get 0).sure, true⟩ : FileS).weight ≤ 110 := h1
    omega
  · right
    have : (⟨N, ((twoD x y F).get 1).sure, true⟩ : FileS).weight ≤ 110 := h2
    omega
/-- What Write answers and leaves while a call is going to fail. -/
theorem write_fail (o : List UInt8) (F : Int) (ver : Nat) (s : List UInt8) (hF : 1 ≤ F) (ho : o.length ≤ 110) (hs : s.length ≤ 40) :
    (twoD (sureF o) (sureF o) F).writeIt 0 ver s =
      if F = 1 then (8, twoD (sureF o) (sureF o) 0, ver)
      else if F = 2 then (8, twoD ⟨txt (spellL (ver + 1) s), txt o, true⟩ (sureF o) 0, ver)
      else if F = 3 then (8, twoD (sureF (spellL (ver + 1) s)) (sureF o) 0, ver)
      else if F = 4 then (8, twoD (sureF (spellL (ver + 1) s)) ⟨txt (spellL (ver + 1) s), txt o, true⟩ 0, ver)
      else (0, twoD (sureF (spellL (ver + 1) s)) (sureF (spellL (ver + 1) s)) (F - 4), ver + 1) := by
  have hl := spellL_short (ver + 1) s hs
  have hwo : (sureF o).weight ≤ 110 := by rw [weight_sure]; exact ho
  have hwn : (sureF (spellL (ver + 1) s)).weight ≤ 110 := by rw [weight_sure]; exact hl
  have e1 : (twoD (sureF o) (sureF o) F).layIt 0 (ver + 1) s = if F = 1 then (8, twoD (sureF o) (sureF o) 0) else if F = 2 then (8, twoD ⟨txt (spellL (ver + 1) s), txt o, true⟩ (sureF o) 0) else (0, twoD (sureF (spellL (ver + 1) s)) (sureF o) (F - 2)) :=
    lay_fail (twoD (sureF o) (sureF o) F) 0 (ver + 1) s (by decide) hF (two_fits _ _ F 0 (by decide) hwo hwo _ (by rw [txt_size]; exact hl))
  have e2 : 3 ≤ F → (twoD (sureF (spellL (ver + 1) s)) (sureF o) (F - 2)).layIt (0 + 1) (ver + 1) s = if F - 2 = 1 then (8, twoD (sureF (spellL (ver + 1) s)) (sureF o) 0) else if F - 2 = 2 then (8, twoD (sureF (spellL (ver + 1) s)) ⟨txt (spellL (ver + 1) s), txt o, true⟩ 0) else (0, twoD (sureF (spellL (ver + 1) s)) (sureF (spellL (ver + 1) s)) (F - 2 - 2)) := fun h3 =>
    lay_fail (twoD (sureF (spellL (ver + 1) s)) (sureF o) (F - 2)) 1 (ver + 1) s (by decide) (show 1 ≤ F - 2 by omega) (two_fits _ _ (F - 2) 1 (by decide) hwn hwo _ (by rw [txt_size]; exact hl))
  generalize spellL (ver + 1) s = N at *
  unfold DiskS.writeIt
  rw [if_neg (by omega), e1]
  by_cases h1 : F = 1
  · rw [if_pos h1, if_pos h1]; rfl
  · rw [if_neg h1, if_neg h1]
    by_cases h2 : F = 2
    · rw [if_pos h2, if_pos h2]; rfl
    · rw [if_neg h2, if_neg h2]
      simp only
      have e2 := e2 (by omega)
      by_cases h3 : F = 3
      · have h3' : F - 2 = 1 := by omega
        rw [if_pos h3'] at e2
        rw [if_pos h3, e2]; rfl
      · have h3' : ¬ F - 2 = 1 := by omega
        rw [if_neg h3'] at e2
        rw [if_neg h3]
        by_cases h4 : F = 4
        · have h4' : F - 2 = 2 := by omega
          rw [if_pos h4'] at e2
          rw [if_pos h4, e2]; rfl
        · have h4' : ¬ F - 2 = 2 := by omega
          rw [if_neg h4', show F - 2 - 2 = F - 4 by omega] at e2
          rw [if_neg h4, e2]; rfl

theorem step_safe (d0 : DiskS) (k : Nat) (st : DiskS × List Int) (h : (d0.get k).safe = true) : crashStep d0 k st = (st.1.set k ⟨(d0.get k).now, (d0.get k).now, false⟩, st.2) := if_pos h
theorem sure_safe (x : List UInt8) : (sureF x).safe = true := by simp [FileS.safe, sureF]
/-- A file that was put leaves what it had for sure, or a beginning of what it has. -/
theorem step_put (d0 : DiskS) (k : Nat) (st : DiskS × List Int) (N o : List UInt8) (h : d0.get k = ⟨txt N, txt o, true⟩) : ∃ p cs, crashStep d0 k st = (st.1.set k (sureF p), cs) ∧ (p = o ∨ ∃ q, N = p ++ q) := by
  unfold crashStep
  rw [h]
  by_cases hs : (⟨txt N, txt o, true⟩ : FileS).safe = true
  · rw [if_pos hs]
    exact ⟨N, _, rfl, .inr ⟨[], by simp⟩⟩
  · rw [if_neg hs]
    unfold FileS.left
    simp only [if_true]
    split
    · exact ⟨o, _, rfl, .inl rfl⟩
    · rename_i hc
      obtain ⟨n, hn⟩ : ∃ n : Nat, n = (st.2.headD 0 % (⟨txt N, txt o, true⟩ : FileS).ways - 1).toNat := ⟨_, rfl⟩
      have e : (txt N).extract 0 n = txt (N.take n) := by
        apply ByteArray.ext
        simp [txt, ByteArray.data_extract]
      rw [← hn, e]
      exact ⟨N.take n, _, rfl, .inr ⟨N.drop n, (List.take_append_drop n N).symm⟩⟩
theorem crash_two (a b : List UInt8) (F : Int) (cs : List Int) : (twoD (sureF a) (sureF b) F).crashIt cs = twoD (sureF a) (sureF b) 0 := by
  have h0 : ((twoD (sureF a) (sureF b) F).get 0).safe = true := sure_safe a
  have h1 : ((twoD (sureF a) (sureF b) F).get 1).safe = true := sure_safe b
  have h2 : ((twoD (sureF a) (sureF b) F).get 2).safe = true := sure_safe []
  have h3 : ((twoD (sureF a) (sureF b) F).get 3).safe = true := sure_safe []
  unfold DiskS.crashIt
  simp only [crashTo, step_safe _ _ _ h0, step_safe _ _ _ h1, step_safe _ _ _ h2, step_safe _ _ _ h3]
  rfl
theorem crash_put0 (N o b : List UInt8) (F : Int) (cs : List Int) : ∃ p, (twoD ⟨txt N, txt o, true⟩ (sureF b) F).crashIt cs = twoD (sureF p) (sureF b) 0 ∧ (p = o ∨ ∃ q, N = p ++ q) := by
  have h1 : ((twoD ⟨txt N, txt o, true⟩ (sureF b) F).get 1).safe = true := sure_safe b
  have h2 : ((twoD ⟨txt N, txt o, true⟩ (sureF b) F).get 2).safe = true := sure_safe []
  have h3 : ((twoD ⟨txt N, txt o, true⟩ (sureF b) F).get 3).safe = true := sure_safe []
  obtain ⟨p, c2, h0, hp⟩ := step_put (twoD ⟨txt N, txt o, true⟩ (sureF b) F) 0 ({ (twoD ⟨txt N, txt o, true⟩ (sureF b) F) with fail := 0 }, cs) N o rfl
  refine ⟨p, ?_, hp⟩
  unfold DiskS.crashIt
  simp only [crashTo, h0, step_safe _ _ _ h1, step_safe _ _ _ h2, step_safe _ _ _ h3]
  rfl
theorem crash_put1 (N o a : List UInt8) (F : Int) (cs : List Int) : ∃ p, (twoD (sureF a) ⟨txt N, txt o, true⟩ F).crashIt cs = twoD (sureF a) (sureF p) 0 ∧ (p = o ∨ ∃ q, N = p ++ q) := by
  have h0 : ((twoD (sureF a) ⟨txt N, txt o, true⟩ F).get 0).safe = true := sure_safe a
  have h2 : ((twoD (sureF a) ⟨txt N, txt o, true⟩ F).get 2).safe = true := sure_safe []
  have h3 : ((twoD (sureF a) ⟨txt N, txt o, true⟩ F).get 3).safe = true := sure_safe []
  obtain ⟨p, c2, h1, hp⟩ := step_put (twoD (sureF a) ⟨txt N, txt o, true⟩ F) 1 (twoD (sureF a) ⟨txt N, txt o, true⟩ 0, cs) N o rfl
  refine ⟨p, ?_, hp⟩
  have e1 : crashTo (twoD (sureF a) ⟨txt N, txt o, true⟩ F) cs 1 = (twoD (sureF a) ⟨txt N, txt o, true⟩ 0, cs) := step_safe _ _ _ h0
  have e2 : crashTo (twoD (sureF a) ⟨txt N, txt o, true⟩ F) cs 2 = (twoD (sureF a) (sureF p) 0, c2) := by rw [crashTo, e1]; exact h1
  have e3 : crashTo (twoD (sureF a) ⟨txt N, txt o, true⟩ F) cs 3 = (twoD (sureF a) (sureF p) 0, c2) := by rw [crashTo, e2]; exact step_safe _ _ _ h2
  have e4 : crashTo (twoD (sureF a) ⟨txt N, txt o, true⟩ F) cs 4 = (twoD (sureF a) (sureF p) 0, c2) := by rw [crashTo, e3]; exact step_safe _ _ _ h3
  unfold DiskS.crashIt
  rw [e4]

/-- A disk behind writes of which the last may have been cut off. -/
def Torn (D : DiskS) (last next : List UInt8) : Prop :=
  ∃ (ver : Nat) (o : List UInt8) (F : Int), ver ≤ 12 ∧ last.length ≤ 40 ∧ next.length ≤ 40 ∧ o.length ≤ 110 ∧ 0 ≤ F ∧ F ≤ 61 ∧ (ver = 0 → o = [] ∧ last = []) ∧ (ver ≠ 0 → o = spellL ver last) ∧
    (D = twoD (sureF o) (sureF o) F ∨ D = twoD ⟨txt (spellL (ver + 1) next), txt o, true⟩ (sureF o) 0 ∨ D = twoD (sureF (spellL (ver + 1) next)) (sureF o) 0 ∨ D = twoD (sureF (spellL (ver + 1) next)) ⟨txt (spellL (ver + 1) next), txt o, true⟩ 0)
/-- What Open finds there, twice. -/
def Heals (D : DiskS) (last next : List UInt8) : Prop :=
  ∃ (v v2 : Nat) (s : List UInt8) (D1 D2 : DiskS), D.openIt 0 = (some v, s, 0, D1) ∧ (s = last ∨ s = next) ∧ D1.fine ∧ D1.ok ∧ (∀ cs, (D1.crashIt cs).fine ∧ (D1.crashIt cs).openIt 0 = (some v2, s, 0, D2))
theorem two_ok (a b : List UInt8) (F : Int) : (twoD (sureF a) (sureF b) F).ok := fun i _ => by
  match i with
  | 0 => exact Nat.le_refl _
  | 1 => exact Nat.le_refl _
  | 2 => exact Nat.le_refl _
  | n + 3 => exact Nat.le_refl _
/-- Both files have the same. -/
theorem open_same (N : List UInt8) (v : Nat) (s : List UInt8) (h : parseL N = ⟨v, s, false⟩) (h0 : v = 0 → s = []) : (twoD (sureF N) (sureF N) 0).openIt 0 = (some v, s, 0, twoD (sureF N) (sureF N) 0) := by
  have e1 : (twoD (sureF N) (sureF N) 0).file (0 : Int) = N := two_file0 N (sureF N) 0
  have e2 : (twoD (sureF N) (sureF N) 0).file ((0 : Int) + 1) = N := two_file1 (sureF N) N 0
  unfold DiskS.openIt
  rw [e1, e2, h]
  simp only
  rw [if_neg (by simp)]
  by_cases hv : v = 0
  · rw [if_pos ⟨hv, hv⟩, hv, h0 hv]
  · rw [if_neg (fun q => hv q.1), if_neg (Nat.lt_irrefl _)]
    simp [DiskS.mendIt]
theorem heals_same (N : List UInt8) (v : Nat) (s last next : List UInt8) (hN : N.length ≤ 110) (h : parseL N = ⟨v, s, false⟩) (h0 : v = 0 → s = []) (hs : s = last ∨ s = next) (D : DiskS) (v1 : Nat) (hD : D.openIt 0 = (some v1, s, 0, twoD (sureF N) (sureF N) 0)) : Heals D last next := by
  have hf := two_fine (sureF N) (sureF N) 0 (sure_small N (by omega)) (sure_small N (by omega)) (by decide) (by decide)
  exact ⟨v1, v, s, _, _, hD, hs, hf, two_ok _ _ _, fun cs => by rw [crash_two]; exact ⟨hf, open_same N v s h h0⟩⟩
theorem part_parse (v : Nat) (s p q : List UInt8) (hs : s.length ≤ 524288) (h : spellL v s = p ++ q) : p = spellL v s ∨ ∃ bd, parseL p = ⟨0, [], bd⟩ := by
  by_cases hq : q = []
  · rw [hq, List.append_nil] at h; exact .inl h.symm
  · by_cases hp : p = []
    · exact .inr ⟨false, by rw [hp]; exact parse_none⟩
    · exact .inr ⟨true, parse_part v s p q hs hp hq h⟩
theorem torn_heals (D : DiskS) (last next : List UInt8) (cs : List Int) (h : Torn D last next) : D.fine ∧ D.ok ∧ (D.crashIt cs).fine ∧ Heals (D.crashIt cs) last next := by
  obtain ⟨ver, o, F, hv, hl, hn, ho, hF0, hF1, hz, hm, hD⟩ := h
  have hNl := spellL_short (ver + 1) next hn
  have hpo : parseL o = ⟨ver, last, false⟩ := by
    by_cases hv0 : ver = 0
    · obtain ⟨e1, e2⟩ := hz hv0
      rw [e1, e2, hv0]; exact parse_none
    · rw [hm hv0]; exact parse_spell ver last (by omega) hv0 (by omega)
  have hpN : parseL (spellL (ver + 1) next) = ⟨ver + 1, next, false⟩ := parse_spell (ver + 1) next (by omega) (by omega) (by omega)
  have hpart : ∀ p, (p = o ∨ ∃ q, spellL (ver + 1) next = p ++ q) → p = o ∨ p = spellL (ver + 1) next ∨ ∃ bd, parseL p = ⟨0, [], bd⟩ := fun p hp => by
    rcases hp with hp | ⟨q, hq⟩
    · exact .inl hp
    · exact .inr (part_parse (ver + 1) next p q (by omega) hq)
  have hplen : ∀ p, (p = o ∨ ∃ q, spellL (ver + 1) next = p ++ q) → p.length ≤ 110 := fun p hp => by
    rcases hp with rfl | ⟨q, hq⟩
    · exact ho
    · have := congrArg List.length hq
      rw [List.length_append] at this
      omega
  have hz2 : ver = 0 → last = [] := fun h => (hz h).2
  have hN1 : ver ≠ 0 → spellL ver last = o := fun h => (hm h).symm
  have hNN : spellL (ver + 1) next = spellL (ver + 1) next := rfl
  generalize hNe : spellL (ver + 1) next = N at *
  have sm : ∀ p : List UInt8, p.length ≤ 110 → (sureF p).small := fun p hp => sure_small p (by omega)
  have put_small : (⟨txt N, txt o, true⟩ : FileS).small := by constructor <;> (simp only [txt_size]; omega)
  -- the disk behind the crash
  have same : ∀ M v s, M.length ≤ 110 → parseL M = ⟨v, s, false⟩ → (v = 0 → s = []) → (s = last ∨ s = next) → Heals (twoD (sureF M) (sureF M) 0) last next := fun M v s hM hp h0 hs => heals_same M v s last next hM hp h0 hs _ v (open_same M v s hp h0)
  have newold : Heals (twoD (sureF N) (sureF o) 0) last next := by
    have e := open_first (twoD (sureF N) (sureF o) 0) 0 (ver + 1) next ⟨ver, last, false⟩ (by decide) (by rw [two_file0]; exact hpN) (by rw [two_file1]; exact hpo) (by simp only; omega) rfl (by
      rw [two_used, weight_sure, weight_sure, show (twoD (sureF N) (sureF o) 0).room = 10000 from rfl, hNe]; omega)
    rw [hNe] at e
    exact heals_same N (ver + 1) next last next hNl hpN (fun h => by omega) (.inr rfl) _ (ver + 1) e
  have newpart : ∀ p bd, p.length ≤ 110 → parseL p = ⟨0, [], bd⟩ → Heals (twoD (sureF N) (sureF p) 0) last next := fun p bd hpl hp => by
    have e := open_first (twoD (sureF N) (sureF p) 0) 0 (ver + 1) next ⟨0, [], bd⟩ (by decide) (by rw [two_file0]; exact hpN) (by rw [two_file1]; exact hp) (by simp only; omega) rfl (by
      rw [two_used, weight_sure, weight_sure, show (twoD (sureF N) (sureF p) 0).room = 10000 from rfl, hNe]; omega)
    rw [hNe] at e
    exact heals_same N (ver + 1) next last next hNl hpN (fun h => by omega) (.inr rfl) _ (ver + 1) e
  have partold : ∀ p bd, p.length ≤ 110 → parseL p = ⟨0, [], bd⟩ → Heals (twoD (sureF p) (sureF o) 0) last next := fun p bd hpl hp => by
    by_cases hv0 : ver = 0
    · have ho0 := (hz hv0).1
      have e1 : (twoD (sureF p) (sureF o) 0).file (0 : Int) = p := two_file0 p (sureF o) 0
      have e2 : (twoD (sureF p) (sureF o) 0).file ((0 : Int) + 1) = o := two_file1 (sureF p) o 0
      have e : (twoD (sureF p) (sureF o) 0).openIt 0 = (some 0, [], 0, twoD (sureF p) (sureF o) 0) := by
        unfold DiskS.openIt
        rw [e1, e2, hp, hpo, hv0]
        simp
      have hf := two_fine (sureF p) (sureF o) 0 (sm p hpl) (sm o ho) (by decide) (by decide)
      exact ⟨0, 0, [], _, _, e, .inl (hz2 hv0).symm, hf, two_ok _ _ _, fun cs => by rw [crash_two]; exact ⟨hf, e⟩⟩
    · have e := open_second (twoD (sureF p) (sureF o) 0) 0 ver last bd (by decide) (by rw [two_file0]; exact hp) (by rw [two_file1]; exact hpo) hv0 rfl (by
        rw [two_used, weight_sure, weight_sure, show (twoD (sureF p) (sureF o) 0).room = 10000 from rfl, hN1 hv0]; omega)
      rw [hN1 hv0] at e
      exact heals_same o ver last last next ho hpo hz2 (.inl rfl) _ ver e
  rcases hD with rfl | rfl | rfl | rfl
  · refine ⟨two_fine _ _ _ (sm o ho) (sm o ho) hF0 (by omega), two_ok _ _ _, ?_⟩
    rw [crash_two]
    exact ⟨two_fine _ _ _ (sm o ho) (sm o ho) (by decide) (by decide), same o ver last ho hpo hz2 (.inl rfl)⟩
  · refine ⟨two_fine _ _ _ put_small (sm o ho) (by decide) (by decide), fun i => ?_, ?_⟩
    · match i with
      | 0 => intro hp; cases hp
      | 1 => intro _; exact Nat.le_refl _
      | 2 => intro _; exact Nat.le_refl _
      | n + 3 => intro _; exact Nat.le_refl _
    · obtain ⟨p, e, hp⟩ := crash_put0 N o o 0 cs
      have hpl := hplen p hp
      rw [e]
      refine ⟨two_fine _ _ _ (sm p hpl) (sm o ho) (by decide) (by decide), ?_⟩
      rcases hpart p hp with rfl | rfl | ⟨bd, hb⟩
      · exact same p ver last ho hpo hz2 (.inl rfl)
      · exact newold
      · exact partold p bd hpl hb
  · refine ⟨two_fine _ _ _ (sm N hNl) (sm o ho) (by decide) (by decide), two_ok _ _ _, ?_⟩
    rw [crash_two]
    exact ⟨two_fine _ _ _ (sm N hNl) (sm o ho) (by decide) (by decide), newold⟩
  · refine ⟨two_fine _ _ _ (sm N hNl) put_small (by decide) (by decide), fun i => ?_, ?_⟩
    · match i with
      | 0 => intro _; exact Nat.le_refl _
      | 1 => intro hp; cases hp
      | 2 => intro _; exact Nat.le_refl _
      | n + 3 => intro _; exact Nat.le_refl _
    · obtain ⟨p, e, hp⟩ := crash_put1 N o N 0 cs
      have hpl := hplen p hp
      rw [e]
      refine ⟨two_fine _ _ _ (sm N hNl) (sm p hpl) (by decide) (by decide), ?_⟩
      rcases hpart p hp with rfl | rfl | ⟨bd, hb⟩
      · exact newold
      · exact same p (ver + 1) next hNl hpN (fun h => by omega) (.inr rfl)
      · exact newpart p bd hpl hb
end Go.Proofs.Ytjaoiaknglnomaa
