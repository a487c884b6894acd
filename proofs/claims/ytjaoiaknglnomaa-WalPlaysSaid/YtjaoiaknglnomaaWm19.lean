/-
  A log on a disk of which a call may fail: what its calls leave, what a crash leaves, what Open finds. Plain laws; no program in sight.
-/
import Derived.Test.YtjaoiaknglnomaaWm17
import Derived.Test.YtjaoiaknglnomaaWm18
set_option linter.unusedVariables false
set_option linter.unusedSimpArgs false
namespace Go.Proofs.Ytjaoiaknglnomaa

/-- The disk whose generation's file is x, the other one y, the marks x2 and x3. -/
def dk (g : Nat) (x y x2 x3 : FileS) (r F : Int) : DiskS := if g % 2 = 0 then ⟨x, y, x2, x3, r, F⟩ else ⟨y, x, x2, x3, r, F⟩
theorem mod_or (g : Nat) : g % 2 = 0 ∧ (g + 1) % 2 = 1 ∨ g % 2 = 1 ∧ (g + 1) % 2 = 0 := by omega
section
variable (g : Nat) (x y x2 x3 z : FileS) (r F : Int)
theorem dk_succ : dk (g + 1) x y x2 x3 r F = dk g y x x2 x3 r F := by
  unfold dk; rcases mod_or g with ⟨h, h'⟩ | ⟨h, h'⟩ <;> simp [h, h']
theorem dk_log : (dk g x y x2 x3 r F).get (g % 2) = x := by unfold dk; rcases mod_or g with ⟨h, h'⟩ | ⟨h, h'⟩ <;> simp [h, DiskS.get]
theorem dk_oth : (dk g x y x2 x3 r F).get ((g + 1) % 2) = y := by unfold dk; rcases mod_or g with ⟨h, h'⟩ | ⟨h, h'⟩ <;> simp [h, h', DiskS.get]
theorem dk_two : (dk g x y x2 x3 r F).get 2 = x2 := by unfold dk; split <;> rfl
theorem dk_three : (dk g x y x2 x3 r F).get 3 = x3 := by unfold dk; split <;> rfl
theorem dk_set_log : (dk g x y x2 x3 r F).set (g % 2) z = dk g z y x2 x3 r F := by unfold dk; rcases mod_or g with ⟨h, h'⟩ | ⟨h, h'⟩ <;> simp [h, DiskS.set]
theorem dk_set_oth : (dk g x y x2 x3 r F).set ((g + 1) % 2) z = dk g x z x2 x3 r F := by unfold dk; rcases mod_or g with ⟨h, h'⟩ | ⟨h, h'⟩ <;> simp [h, h', DiskS.set]
theorem dk_set2 : (dk g x y x2 x3 r F).set 2 z = dk g x y z x3 r F := by unfold dk; split <;> rfl
theorem dk_set3 : (dk g x y x2 x3 r F).set 3 z = dk g x y x2 z r F := by unfold dk; split <;> rfl
theorem dk_till (G : Int) : (dk g x y x2 x3 r F).till G = dk g x y x2 x3 r G := by unfold dk; split <;> rfl
theorem dk_room : (dk g x y x2 x3 r F).room = r := by unfold dk; split <;> rfl
theorem dk_fail : (dk g x y x2 x3 r F).fail = F := by unfold dk; split <;> rfl
theorem dk_used : (dk g x y x2 x3 r F).used = x.weight + y.weight + x2.weight + x3.weight := by
  unfold dk; split <;> simp only [DiskS.used] <;> omega
theorem dk_fine (hx : x.small) (hy : y.small) (h2 : x2.small) (h3 : x3.small) (hr : r ≤ 1099511627776) (h0 : 0 ≤ F) (h1 : F ≤ 1073741825) : (dk g x y x2 x3 r F).fine := by
  unfold dk
  split
  · exact ⟨⟨hx, hy, h2, h3⟩, hr, h0, h1⟩
  · exact ⟨⟨hy, hx, h2, h3⟩, hr, h0, h1⟩
theorem dk_ok (hx : x.ok) (hy : y.ok) (h2 : x2.ok) (h3 : x3.ok) : (dk g x y x2 x3 r F).ok := by
  unfold dk
  split
  · intro i
    match i with
    | 0 => exact hx
    | 1 => exact hy
    | 2 => exact h2
    | n + 3 => exact h3
  · intro i
    match i with
    | 0 => exact hy
    | 1 => exact hx
    | 2 => exact h2
    | n + 3 => exact h3
end

/-- What a crash leaves of a file. -/
def FileS.leaves (f : FileS) (c : Int) : ByteArray := if f.safe then f.now else f.left c
def FileS.cr (f : FileS) (c : Int) : FileS := ⟨f.leaves c, f.leaves c, false⟩
theorem step_cr (d0 : DiskS) (k : Nat) (st : DiskS × List Int) : ∃ c cs, crashStep d0 k st = (st.1.set k ((d0.get k).cr c), cs) := by
  unfold crashStep FileS.cr FileS.leaves
  split
  · exact ⟨0, _, rfl⟩
  · exact ⟨st.2.headD 0, _, rfl⟩
theorem crash_parts (f0 f1 f2 f3 : FileS) (r F : Int) (cs : List Int) : ∃ c0 c1 c2 c3, (⟨f0, f1, f2, f3, r, F⟩ : DiskS).crashIt cs = ⟨f0.cr c0, f1.cr c1, f2.cr c2, f3.cr c3, r, 0⟩ := by
  obtain ⟨c0, s0, h0⟩ := step_cr ⟨f0, f1, f2, f3, r, F⟩ 0 (⟨f0, f1, f2, f3, r, 0⟩, cs)
  obtain ⟨c1, s1, h1⟩ := step_cr ⟨f0, f1, f2, f3, r, F⟩ 1 (⟨f0.cr c0, f1, f2, f3, r, 0⟩, s0)
  obtain ⟨c2, s2, h2⟩ := step_cr ⟨f0, f1, f2, f3, r, F⟩ 2 (⟨f0.cr c0, f1.cr c1, f2, f3, r, 0⟩, s1)
  obtain ⟨c3, s3, h3⟩ := step_cr ⟨f0, f1, f2, f3, r, F⟩ 3 (⟨f0.cr c0, f1.cr c1, f2.cr c2, f3, r, 0⟩, s2)
  refine ⟨c0, c1, c2, c3, ?_⟩
  have e1 : crashTo ⟨f0, f1, f2, f3, r, F⟩ cs 1 = (⟨f0.cr c0, f1, f2, f3, r, 0⟩, s0) := h0
  have e2 : crashTo ⟨f0, f1, f2, f3, r, F⟩ cs 2 = (⟨f0.cr c0, f1.cr c1, f2, f3, r, 0⟩, s1) := by rw [crashTo, e1]; exact h1
  have e3 : crashTo ⟨f0, f1, f2, f3, r, F⟩ cs 3 = (⟨f0.cr c0, f1.cr c1, f2.cr c2, f3, r, 0⟩, s2) := by rw [crashTo, e2]; exact h2
  have e4 : crashTo ⟨f0, f1, f2, f3, r, F⟩ cs 4 = (⟨f0.cr c0, f1.cr c1, f2.cr c2, f3.cr c3, r, 0⟩, s3) := by rw [crashTo, e3]; exact h3
  unfold DiskS.crashIt
  rw [e4]
theorem dk_crash (g : Nat) (x y x2 x3 : FileS) (r F : Int) (cs : List Int) : ∃ c0 c1 c2 c3, (dk g x y x2 x3 r F).crashIt cs = dk g (x.cr c0) (y.cr c1) (x2.cr c2) (x3.cr c3) r 0 := by
  unfold dk
  split
  · exact crash_parts _ _ _ _ _ _ _
  · obtain ⟨c0, c1, c2, c3, h⟩ := crash_parts y x x2 x3 r F cs
    exact ⟨c1, c0, c2, c3, h⟩

theorem cr_sure (x : List UInt8) (c : Int) : (sureF x).cr c = sureF x := by
  unfold FileS.cr FileS.leaves
  rw [if_pos (sure_safe x)]
  rfl
theorem txt_cut (N : List UInt8) (n : Nat) : (txt N).extract 0 n = txt (N.take n) := by
  apply ByteArray.ext
  simp [txt, ByteArray.data_extract]
theorem cr_put (N o : List UInt8) (c : Int) : ∃ p, (⟨txt N, txt o, true⟩ : FileS).cr c = sureF p ∧ (p = o ∨ ∃ q, N = p ++ q) := by
  unfold FileS.cr FileS.leaves
  split
  · exact ⟨N, rfl, .inr ⟨[], by simp⟩⟩
  · unfold FileS.left
    simp only [if_true]
    split
    · exact ⟨o, rfl, .inl rfl⟩
    · rw [txt_cut]
      exact ⟨_, rfl, .inr ⟨_, (List.take_append_drop _ N).symm⟩⟩
theorem cr_app (N : List UInt8) (m : Nat) (hm : m ≤ N.length) (c : Int) : ∃ q, m ≤ q ∧ (⟨txt N, txt (N.take m), false⟩ : FileS).cr c = sureF (N.take q) := by
  unfold FileS.cr FileS.leaves
  split
  · exact ⟨N.length, hm, by rw [List.take_length]; rfl⟩
  · unfold FileS.left
    simp only [Bool.false_eq_true, if_false]
    rw [txt_cut]
    refine ⟨_, ?_, rfl⟩
    have hw : (0 : Int) ≤ c % (⟨txt N, txt (N.take m), false⟩ : FileS).ways := by
      apply Int.emod_nonneg
      unfold FileS.ways
      simp only [Bool.false_eq_true, if_false, txt_size, List.length_take]
      omega
    rw [txt_size, List.length_take]
    omega

/-- Calls of which one may fail. -/
theorem till_fits (d : DiskS) (G : Int) (k : Nat) (x : FileS) : (d.till G).layFits k x = d.layFits k x := by
  unfold DiskS.layFits
  rw [till_get]
  rfl
theorem till_same (d : DiskS) : d.till d.fail = d := rfl
theorem put_or (d : DiskS) (k : Nat) (N : ByteArray) (hk : k < 4) (h0 : 0 ≤ d.fail) (hfit : ((d.used + N.size : Nat) : Int) ≤ d.room) :
    ∃ G, 0 ≤ G ∧ G ≤ d.fail ∧ (d.putIt k N = (0, (d.till G).set k ⟨N, (d.get k).sure, true⟩) ∨ (d.fail ≠ 0 ∧ d.putIt k N = (8, d.till G))) := by
  have hf : d.layFits k ⟨N, (d.get k).sure, true⟩ = true := by
    unfold DiskS.layFits
    rw [decide_eq_true_iff]
    generalize d.get k = f
    obtain ⟨a, b, c⟩ := f
    simp only [FileS.weight]
    omega
  by_cases hz : d.fail = 0
  · obtain ⟨t1, t2⟩ := try_ok d k (by omega) (by omega) hz
    refine ⟨0, Int.le_refl _, by omega, .inl ?_⟩
    have e : d.till 0 = d := by rw [← hz]; exact till_same d
    unfold DiskS.putIt
    rw [if_pos t1, t2, Int.toNat_natCast, e]
    exact if_pos hf
  · have h := put_fail d k N hk (by omega) (fun G => by rw [till_fits]; exact hf)
    by_cases h1 : d.fail = 1
    · rw [if_pos h1] at h
      exact ⟨0, Int.le_refl _, by omega, .inr ⟨hz, h⟩⟩
    · rw [if_neg h1] at h
      exact ⟨d.fail - 1, by omega, by omega, .inl h⟩
theorem sync_or (d : DiskS) (k : Nat) (hk : k < 4) (h0 : 0 ≤ d.fail) :
    ∃ G, 0 ≤ G ∧ G ≤ d.fail ∧ (d.syncIt k = (0, (d.till G).set k ⟨(d.get k).now, (d.get k).now, false⟩) ∨ (d.fail ≠ 0 ∧ d.syncIt k = (8, d.till G))) := by
  by_cases hz : d.fail = 0
  · obtain ⟨t1, t2⟩ := try_ok d k (by omega) (by omega) hz
    refine ⟨0, Int.le_refl _, by omega, .inl ?_⟩
    have e : d.till 0 = d := by rw [← hz]; exact till_same d
    unfold DiskS.syncIt
    rw [if_pos t1, t2, Int.toNat_natCast, e]
  · have h := sync_fail d k hk (by omega)
    by_cases h1 : d.fail = 1
    · rw [if_pos h1] at h
      exact ⟨0, Int.le_refl _, by omega, .inr ⟨hz, h⟩⟩
    · rw [if_neg h1] at h
      exact ⟨d.fail - 1, by omega, by omega, .inl h⟩
theorem app_or (d : DiskS) (k : Nat) (s : ByteArray) (hk : k < 4) (h0 : 0 ≤ d.fail) (hfit : ((d.used + s.size : Nat) : Int) ≤ d.room) :
    ∃ G, 0 ≤ G ∧ G ≤ d.fail ∧ (d.appendIt k s = (0, (d.till G).set k ⟨(d.get k).now ++ s, (d.get k).sure, (d.get k).put⟩) ∨ (d.fail ≠ 0 ∧ d.appendIt k s = (8, d.till G))) := by
  have hf : ∀ G, (d.till G).layFits k ⟨(d.get k).now ++ s, (d.get k).sure, (d.get k).put⟩ = true := fun G => by
    rw [till_fits]
    simp only [DiskS.layFits, FileS.weight, decide_eq_true_iff, ByteArray.size_append]
    omega
  have hr : 0 ≤ (k : Int) ∧ (k : Int) < 4 := ⟨by omega, by omega⟩
  have hT : d.tried k = d.till (tryRes d.fail k).2 := rfl
  unfold DiskS.appendIt
  rw [Int.toNat_natCast]
  by_cases hz : d.fail = 0
  · have e : tryRes d.fail k = (0, 0) := by unfold tryRes; rw [if_pos hr, if_pos hz]
    refine ⟨0, Int.le_refl _, by omega, .inl ?_⟩
    rw [hT, e]
    exact if_pos (hf 0)
  · by_cases h1 : d.fail = 1
    · have e : tryRes d.fail k = (8, 0) := by unfold tryRes; rw [if_pos hr, if_neg hz, if_pos (by omega)]
      refine ⟨0, Int.le_refl _, by omega, .inr ⟨hz, ?_⟩⟩
      rw [hT, e]
      rfl
    · have e : tryRes d.fail k = (0, d.fail - 1) := by unfold tryRes; rw [if_pos hr, if_neg hz, if_neg (by omega)]
      refine ⟨d.fail - 1, by omega, by omega, .inl ?_⟩
      rw [hT, e]
      exact if_pos (hf _)
theorem rep_or (d : DiskS) (k : Nat) (N : List UInt8) (hk : k < 4) (h0 : 0 ≤ d.fail) (hfit : ((d.used + N.length : Nat) : Int) ≤ d.room) :
    ∃ G, 0 ≤ G ∧ G ≤ d.fail ∧ (d.replaceIt k (txt N) = (0, (d.till G).set k (sureF N)) ∨ (d.fail ≠ 0 ∧ (d.replaceIt k (txt N) = (8, d.till G) ∨ d.replaceIt k (txt N) = (8, (d.till G).set k ⟨txt N, (d.get k).sure, true⟩)))) := by
  obtain ⟨G, hG0, hG1, h⟩ := put_or d k (txt N) hk h0 (by rw [txt_size]; exact hfit)
  unfold DiskS.replaceIt
  rcases h with h | ⟨hz, h⟩
  · rw [h, if_pos rfl]
    have hff : ((d.till G).set k ⟨txt N, (d.get k).sure, true⟩).fail = G := (set_rest _ _ _).2
    obtain ⟨G', h0', h1', h'⟩ := sync_or ((d.till G).set k ⟨txt N, (d.get k).sure, true⟩) k hk (by rw [hff]; exact hG0)
    rw [hff, get_set, set_till, till_till, set_set] at h'
    rw [hff] at h1'
    refine ⟨G', h0', by omega, ?_⟩
    rcases h' with h' | ⟨hz', h'⟩
    · exact .inl h'
    · exact .inr ⟨by omega, .inr h'⟩
  · rw [h]
    exact ⟨G, hG0, hG1, .inr ⟨hz, .inl (if_neg (show ¬ ((8 : Int) = 0) by decide))⟩⟩
theorem lay_rep (d : DiskS) (k v : Nat) (s : List UInt8) : d.layIt k v s = d.replaceIt k (txt (spellL v s)) := rfl
end Go.Proofs.Ytjaoiaknglnomaa

/- A log's marks on a disk of which a call may fail: what Write and Open leave, and what Open finds behind a crash. Plain laws; no program in sight. -/
namespace Go.Proofs.Ytjaoiaknglnomaa

def Bad (a : List UInt8) : Prop := ∃ bd, parseL a = ⟨0, [], bd⟩
/-- Both halves of a mark, in peace. -/
def Good (a b : List UInt8) (v : Nat) (M : List UInt8) : Prop := (v = 0 ∧ M = [] ∧ Bad a ∧ b = []) ∨ (v ≠ 0 ∧ a = spellL v M ∧ b = a)
/-- Both halves of a mark behind a crash. -/
def Heal (a b : List UInt8) (v : Nat) (M : List UInt8) : Prop :=
  (v = 0 ∧ M = [] ∧ Bad a ∧ b = []) ∨ (v ≠ 0 ∧ ((a = spellL v M ∧ (b = a ∨ (parseL b).version < v)) ∨ (Bad a ∧ b = spellL v M)))
theorem Good.heal {a b : List UInt8} {v : Nat} {M : List UInt8} (h : Good a b v M) : Heal a b v M := by
  rcases h with h | ⟨h0, h1, h2⟩
  · exact .inl h
  · exact .inr ⟨h0, .inl ⟨h1, .inl h2⟩⟩
theorem Good.version {a b : List UInt8} {v : Nat} {M : List UInt8} (h : Good a b v M) (hv : v < 18446744073709551616) (hM : M.length ≤ 40) : (parseL b).version = v := by
  rcases h with ⟨rfl, _, _, rfl⟩ | ⟨h0, rfl, rfl⟩
  · rw [parse_none]
  · rw [parse_spell v M hv h0 (by omega)]
/-- .. while a write is under way. -/
def Mid (a b N : List UInt8) (x2 x3 : FileS) : Prop :=
  (x2 = sureF a ∧ x3 = sureF b) ∨ (x2 = ⟨txt N, txt a, true⟩ ∧ x3 = sureF b) ∨ (x2 = sureF N ∧ x3 = sureF b) ∨ (x2 = sureF N ∧ x3 = ⟨txt N, txt b, true⟩) ∨ (x2 = sureF N ∧ x3 = sureF N)
theorem part_len {p o N : List UInt8} (ho : o.length ≤ 110) (hN : N.length ≤ 110) (h : p = o ∨ ∃ q, N = p ++ q) : p.length ≤ 110 := by
  rcases h with rfl | ⟨q, hq⟩
  · exact ho
  · have := congrArg List.length hq
    rw [List.length_append] at this
    omega
theorem mid_heal {a b : List UInt8} {v : Nat} {M M' : List UInt8} {x2 x3 : FileS} (hg : Good a b v M) (hv : v + 1 < 18446744073709551616) (hM : M.length ≤ 40) (hM' : M'.length ≤ 40) (ha : a.length ≤ 110) (hb : b.length ≤ 110) (h : Mid a b (spellL (v + 1) M') x2 x3) (c c' : Int) :
    ∃ p q, x2.cr c = sureF p ∧ x3.cr c' = sureF q ∧ p.length ≤ 110 ∧ q.length ≤ 110 ∧ (Heal p q v M ∨ Heal p q (v + 1) M') := by
  have hN := spellL_short (v + 1) M' hM'
  have hbv := hg.version (by omega) hM
  have hpN : parseL (spellL (v + 1) M') = ⟨v + 1, M', false⟩ := parse_spell (v + 1) M' hv (by omega) (by omega)
  have new : ∀ q, (q = spellL (v + 1) M' ∨ (parseL q).version < v + 1) → Heal (spellL (v + 1) M') q (v + 1) M' := fun q hq => .inr ⟨by omega, .inl ⟨rfl, hq⟩⟩
  have bad : ∀ p, Bad p → Heal p b v M := fun p hp => by
    rcases hg with ⟨h0, h1, _, h3⟩ | ⟨h0, h1, h2⟩
    · exact .inl ⟨h0, h1, hp, h3⟩
    · exact .inr ⟨h0, .inr ⟨hp, by rw [h2, h1]⟩⟩
  rcases h with ⟨rfl, rfl⟩ | ⟨rfl, rfl⟩ | ⟨rfl, rfl⟩ | ⟨rfl, rfl⟩ | ⟨rfl, rfl⟩
  · exact ⟨a, b, cr_sure _ _, cr_sure _ _, ha, hb, .inl hg.heal⟩
  · obtain ⟨p, hp, hpp⟩ := cr_put (spellL (v + 1) M') a c
    refine ⟨p, b, hp, cr_sure _ _, part_len ha hN hpp, hb, ?_⟩
    rcases hpp with rfl | ⟨q, hq⟩
    · exact .inl hg.heal
    · rcases part_parse (v + 1) M' p q (by omega) hq with rfl | hb'
      · exact .inr (new b (.inr (by omega)))
      · exact .inl (bad p hb')
  · exact ⟨_, b, cr_sure _ _, cr_sure _ _, hN, hb, .inr (new b (.inr (by omega)))⟩
  · obtain ⟨p, hp, hpp⟩ := cr_put (spellL (v + 1) M') b c'
    refine ⟨_, p, cr_sure _ _, hp, hN, part_len hb hN hpp, .inr (new p ?_)⟩
    rcases hpp with rfl | ⟨q, hq⟩
    · exact .inr (by omega)
    · rcases part_parse (v + 1) M' p q (by omega) hq with rfl | ⟨bd, hb'⟩
      · exact .inl rfl
      · exact .inr (by rw [hb']; simp)
  · exact ⟨_, _, cr_sure _ _, cr_sure _ _, hN, hN, .inr (new _ (.inl rfl))⟩
theorem small_sure (x : List UInt8) (h : x.length ≤ 1099511627776) : (sureF x).small := sure_small x h
theorem ok_sure (x : List UInt8) : (sureF x).ok := fun _ => Nat.le_refl _
theorem small_put (N o : List UInt8) (h : N.length ≤ 1099511627776) (h' : o.length ≤ 1099511627776) (p : Bool) : (⟨txt N, txt o, p⟩ : FileS).small := by
  constructor <;> (simp only [txt_size]; assumption)
theorem ok_put (N o : ByteArray) : (⟨N, o, true⟩ : FileS).ok := fun h => by cases h
theorem weight_put (N o : List UInt8) (p : Bool) : (⟨txt N, txt o, p⟩ : FileS).weight = max N.length o.length := by simp [FileS.weight, txt_size]
/-- What is known of a file of marks anyhow. -/
def Slim (x : FileS) : Prop := x.small ∧ x.ok ∧ x.weight ≤ 110
theorem thin_sure (a : List UInt8) (h : a.length ≤ 110) : Slim (sureF a) := ⟨small_sure a (by omega), ok_sure a, by rw [weight_sure]; exact h⟩
theorem thin_put (N a : List UInt8) (hN : N.length ≤ 110) (h : a.length ≤ 110) : Slim ⟨txt N, txt a, true⟩ := ⟨small_put N a (by omega) (by omega) _, ok_put _ _, by rw [weight_put]; omega⟩
theorem mid_thin {a b N : List UInt8} {x2 x3 : FileS} (ha : a.length ≤ 110) (hb : b.length ≤ 110) (hN : N.length ≤ 110) (h : Mid a b N x2 x3) : Slim x2 ∧ Slim x3 := by
  rcases h with ⟨rfl, rfl⟩ | ⟨rfl, rfl⟩ | ⟨rfl, rfl⟩ | ⟨rfl, rfl⟩ | ⟨rfl, rfl⟩
  · exact ⟨thin_sure _ ha, thin_sure _ hb⟩
  · exact ⟨thin_put _ _ hN ha, thin_sure _ hb⟩
  · exact ⟨thin_sure _ hN, thin_sure _ hb⟩
  · exact ⟨thin_sure _ hN, thin_put _ _ hN hb⟩
  · exact ⟨thin_sure _ hN, thin_sure _ hN⟩

/-- What Write leaves. -/
theorem write_or (g : Nat) (x y : FileS) (a b : List UInt8) (r F : Int) (v : Nat) (M' : List UInt8) (h0 : 0 ≤ F) (hM' : M'.length ≤ 40) (ha : a.length ≤ 110) (hb : b.length ≤ 110) (hr : ((x.weight + y.weight + 330 : Nat) : Int) ≤ r) :
    ∃ G x2 x3, 0 ≤ G ∧ G ≤ F ∧ Mid a b (spellL (v + 1) M') x2 x3 ∧ ((x2 = sureF (spellL (v + 1) M') ∧ x3 = sureF (spellL (v + 1) M') ∧ (dk g x y (sureF a) (sureF b) r F).writeIt 2 v M' = (0, dk g x y x2 x3 r G, v + 1)) ∨ (F ≠ 0 ∧ (dk g x y (sureF a) (sureF b) r F).writeIt 2 v M' = (8, dk g x y x2 x3 r G, v))) := by
  have hN := spellL_short (v + 1) M' hM'
  obtain ⟨G, hG0, hG1, h⟩ := rep_or (dk g x y (sureF a) (sureF b) r F) 2 (spellL (v + 1) M') (by decide) (by rw [dk_fail]; exact h0) (by rw [dk_used, dk_room, weight_sure, weight_sure]; omega)
  rw [dk_fail] at hG1 h
  rw [dk_till, dk_two, dk_set2, dk_set2] at h
  have hl : (dk g x y (sureF a) (sureF b) r F).layIt 2 (v + 1) M' = (dk g x y (sureF a) (sureF b) r F).replaceIt ((2 : Nat) : Int) (txt (spellL (v + 1) M')) := rfl
  unfold DiskS.writeIt
  rw [if_neg (by omega), hl]
  rcases h with h | ⟨hz, h | h⟩
  · rw [h]
    simp only
    rw [if_neg (by simp)]
    obtain ⟨G', hG0', hG1', h'⟩ := rep_or (dk g x y (sureF (spellL (v + 1) M')) (sureF b) r G) 3 (spellL (v + 1) M') (by decide) (by rw [dk_fail]; exact hG0) (by rw [dk_used, dk_room, weight_sure, weight_sure]; omega)
    rw [dk_fail] at hG1' h'
    rw [dk_till, dk_three, dk_set3, dk_set3] at h'
    have hl' : (dk g x y (sureF (spellL (v + 1) M')) (sureF b) r G).layIt (2 + 1) (v + 1) M' = (dk g x y (sureF (spellL (v + 1) M')) (sureF b) r G).replaceIt ((3 : Nat) : Int) (txt (spellL (v + 1) M')) := rfl
    rw [hl']
    rcases h' with h' | ⟨hz', h' | h'⟩
    · rw [h']
      exact ⟨G', _, _, hG0', by omega, .inr (.inr (.inr (.inr ⟨rfl, rfl⟩))), .inl ⟨rfl, rfl, rfl⟩⟩
    · rw [h']
      exact ⟨G', _, _, hG0', by omega, .inr (.inr (.inl ⟨rfl, rfl⟩)), .inr ⟨by omega, rfl⟩⟩
    · rw [h']
      exact ⟨G', _, _, hG0', by omega, .inr (.inr (.inr (.inl ⟨rfl, rfl⟩))), .inr ⟨by omega, rfl⟩⟩
  · rw [h]
    exact ⟨G, _, _, hG0, hG1, .inl ⟨rfl, rfl⟩, .inr ⟨hz, rfl⟩⟩
  · rw [h]
    exact ⟨G, _, _, hG0, hG1, .inr (.inl ⟨rfl, rfl⟩), .inr ⟨hz, rfl⟩⟩

theorem sure_bytes (a : List UInt8) : (sureF a).now.data.toList = a := by simp [sureF, txt]
/-- What Open leaves. -/
theorem open_or (g : Nat) (x y : FileS) (a b : List UInt8) (r F : Int) (v : Nat) (M : List UInt8) (h0 : 0 ≤ F) (hM : M.length ≤ 40) (hv : v < 18446744073709551616) (ha : a.length ≤ 110) (hb : b.length ≤ 110) (hh : Heal a b v M) (hr : ((x.weight + y.weight + 330 : Nat) : Int) ≤ r) :
    ∃ G, 0 ≤ G ∧ G ≤ F ∧ ((∃ a' b', Good a' b' v M ∧ a'.length ≤ 110 ∧ b'.length ≤ 110 ∧ (dk g x y (sureF a) (sureF b) r F).openIt 2 = (some v, M, 0, dk g x y (sureF a') (sureF b') r G)) ∨
      (F ≠ 0 ∧ ∃ x2 x3, (dk g x y (sureF a) (sureF b) r F).openIt 2 = (none, [], 8, dk g x y x2 x3 r G) ∧ Slim x2 ∧ Slim x3 ∧ ∀ c c', ∃ p q, x2.cr c = sureF p ∧ x3.cr c' = sureF q ∧ p.length ≤ 110 ∧ q.length ≤ 110 ∧ Heal p q v M)) := by
  have hN := spellL_short v M hM
  have e2 : (dk g x y (sureF a) (sureF b) r F).file 2 = a := by
    have h := file_get (dk g x y (sureF a) (sureF b) r F) 2 (by decide)
    rw [dk_two, sure_bytes] at h
    exact h
  have e3 : (dk g x y (sureF a) (sureF b) r F).file (2 + 1) = b := by
    have h := file_get (dk g x y (sureF a) (sureF b) r F) 3 (by decide)
    rw [dk_three, sure_bytes] at h
    exact h
  unfold DiskS.openIt
  rw [e2, e3]
  simp only
  rcases hh with ⟨rfl, rfl, ⟨bd, hba⟩, rfl⟩ | ⟨hv0, ⟨rfl, hb2⟩ | ⟨⟨bd, hba⟩, rfl⟩⟩
  · rw [hba, parse_none]
    simp only [Bool.false_eq_true, false_and, if_false, and_self, if_true]
    exact ⟨F, h0, Int.le_refl _, .inl ⟨a, [], .inl ⟨rfl, rfl, ⟨bd, hba⟩, rfl⟩, ha, by simp, rfl⟩⟩
  · have hp := parse_spell v M hv hv0 (by omega)
    rcases hb2 with rfl | hlt
    · rw [hp]
      simp only
      rw [if_neg (by simp), if_neg (by simp [hv0]), if_neg (Nat.lt_irrefl _)]
      have hm : (dk g x y (sureF (spellL v M)) (sureF (spellL v M)) r F).mendIt 2 ⟨v, M, false⟩ ⟨v, M, false⟩ ⟨v, M, false⟩ = (0, dk g x y (sureF (spellL v M)) (sureF (spellL v M)) r F) := by simp [DiskS.mendIt]
      rw [hm]
      exact ⟨F, h0, Int.le_refl _, .inl ⟨_, _, .inr ⟨hv0, rfl, rfl⟩, hN, hN, if_neg (by simp)⟩⟩
    · obtain ⟨G, hG0, hG1, h⟩ := rep_or (dk g x y (sureF (spellL v M)) (sureF b) r F) 3 (spellL v M) (by decide) (by rw [dk_fail]; exact h0) (by rw [dk_used, dk_room, weight_sure, weight_sure]; omega)
      rw [dk_fail] at hG1 h
      rw [dk_till, dk_three, dk_set3, dk_set3] at h
      rw [hp]
      generalize hpb : parseL b = B at *
      simp only
      have hlt' : ¬ v < B.version := by omega
      rw [if_neg (fun h => hv0 h.2), if_neg (fun h => hv0 h.1), if_neg hlt']
      have hne : B ≠ ⟨v, M, false⟩ := by intro e; rw [e] at hlt; exact Nat.lt_irrefl _ hlt
      have hm : (dk g x y (sureF (spellL v M)) (sureF b) r F).mendIt 2 ⟨v, M, false⟩ B ⟨v, M, false⟩ = (dk g x y (sureF (spellL v M)) (sureF b) r F).replaceIt ((3 : Nat) : Int) (txt (spellL v M)) := by
        have hs : (if (⟨v, M, false⟩ : HalfS) ≠ ⟨v, M, false⟩ then (dk g x y (sureF (spellL v M)) (sureF b) r F).layIt 2 v M else (0, dk g x y (sureF (spellL v M)) (sureF b) r F)) = (0, dk g x y (sureF (spellL v M)) (sureF b) r F) := if_neg (fun h => h rfl)
        unfold DiskS.mendIt
        simp only
        rw [hs]
        simp only
        rw [if_neg (fun h => h rfl), if_pos hne]
        rfl
      rw [hm]
      refine ⟨G, hG0, hG1, ?_⟩
      rcases h with h | ⟨hz, h | h⟩
      · rw [h]
        exact .inl ⟨_, _, .inr ⟨hv0, rfl, rfl⟩, hN, hN, if_neg (by simp)⟩
      · rw [h]
        refine .inr ⟨hz, _, _, if_pos (by simp), thin_sure _ hN, thin_sure _ hb, fun c c' => ⟨_, _, cr_sure _ _, cr_sure _ _, hN, hb, .inr ⟨hv0, .inl ⟨rfl, .inr (by rw [hpb]; exact hlt)⟩⟩⟩⟩
      · rw [h]
        refine .inr ⟨hz, _, _, if_pos (by simp), thin_sure _ hN, thin_put _ _ hN hb, fun c c' => ?_⟩
        obtain ⟨p, hp', hpp⟩ := cr_put (spellL v M) b c'
        refine ⟨_, p, cr_sure _ _, hp', hN, part_len hb hN hpp, .inr ⟨hv0, .inl ⟨rfl, ?_⟩⟩⟩
        rcases hpp with rfl | ⟨q, hq⟩
        · exact .inr (by rw [hpb]; exact hlt)
        · rcases part_parse v M p q (by omega) hq with rfl | ⟨bd, hb'⟩
          · exact .inl rfl
          · exact .inr (by rw [hb']; exact Nat.pos_of_ne_zero hv0)
  · have hp := parse_spell v M hv hv0 (by omega)
    obtain ⟨G, hG0, hG1, h⟩ := rep_or (dk g x y (sureF a) (sureF (spellL v M)) r F) 2 (spellL v M) (by decide) (by rw [dk_fail]; exact h0) (by rw [dk_used, dk_room, weight_sure, weight_sure]; omega)
    rw [dk_fail] at hG1 h
    rw [dk_till, dk_two, dk_set2, dk_set2] at h
    rw [hp, hba]
    simp only
    rw [if_neg (by simp), if_neg (by simp [hv0]), if_pos (Nat.pos_of_ne_zero hv0)]
    have hne : (⟨0, [], bd⟩ : HalfS) ≠ ⟨v, M, false⟩ := by intro e; injection e with e1 _ _; omega
    have hm : (dk g x y (sureF a) (sureF (spellL v M)) r F).mendIt 2 ⟨0, [], bd⟩ ⟨v, M, false⟩ ⟨v, M, false⟩ = (dk g x y (sureF a) (sureF (spellL v M)) r F).replaceIt ((2 : Nat) : Int) (txt (spellL v M)) := by
      have hl : (dk g x y (sureF a) (sureF (spellL v M)) r F).layIt 2 v M = (dk g x y (sureF a) (sureF (spellL v M)) r F).replaceIt ((2 : Nat) : Int) (txt (spellL v M)) := rfl
      unfold DiskS.mendIt
      simp only
      rw [if_pos hne, hl]
      generalize (dk g x y (sureF a) (sureF (spellL v M)) r F).replaceIt ((2 : Nat) : Int) (txt (spellL v M)) = R
      obtain ⟨e, D⟩ := R
      simp only [ne_eq, not_true_eq_false, if_false]
      split
      · rfl
      · rename_i hz
        have : e = 0 := by simpa using hz
        rw [this]
    rw [hm]
    refine ⟨G, hG0, hG1, ?_⟩
    rcases h with h | ⟨hz, h | h⟩
    · rw [h]
      exact .inl ⟨_, _, .inr ⟨hv0, rfl, rfl⟩, hN, hN, if_neg (by simp)⟩
    · rw [h]
      exact .inr ⟨hz, _, _, if_pos (by simp), thin_sure _ ha, thin_sure _ hN, fun c c' => ⟨_, _, cr_sure _ _, cr_sure _ _, ha, hN, .inr ⟨hv0, .inr ⟨⟨bd, hba⟩, rfl⟩⟩⟩⟩
    · rw [h]
      refine .inr ⟨hz, _, _, if_pos (by simp), thin_put _ _ hN ha, thin_sure _ hN, fun c c' => ?_⟩
      obtain ⟨p, hp', hpp⟩ := cr_put (spellL v M) a c
      refine ⟨p, _, hp', cr_sure _ _, part_len ha hN hpp, hN, .inr ⟨hv0, ?_⟩⟩
      rcases hpp with rfl | ⟨q, hq⟩
      · exact .inr ⟨⟨bd, hba⟩, rfl⟩
      · rcases part_parse v M p q (by omega) hq with rfl | hb'
        · exact .inl ⟨rfl, .inl rfl⟩
        · exact .inr ⟨hb', rfl⟩
end Go.Proofs.Ytjaoiaknglnomaa

/- A log on a disk: under way, and behind a crash; what a crash leaves of its records. Plain laws; no program in sight. -/
namespace Go.Proofs.Ytjaoiaknglnomaa

theorem part_torn (inn p q : List UInt8) (hi : inn.length ≤ 1048576) (hq : q ≠ []) (h : frameL 1 inn = p ++ q) : (openL p).2.2 ≠ 0 := by
  intro h0
  obtain ⟨_, hj, r, hp⟩ := openL_inv p (openL p).1 (openL p).2.1 (by rw [← h0])
  generalize (openL p).2.1 = inp at *
  generalize (openL p).1 = k at *
  rw [hp] at h
  have h3 : wideOf inn.length 3 = wideOf inp.length 3 := by
    have := congrArg (fun l => (List.take 3 (List.drop 1 l))) h
    simp only [frameL, bodyL, List.cons_append, List.append_assoc, List.drop_succ_cons, List.drop_zero] at this
    rw [take_is _ _ 3 (wideOf_length _ _), take_is _ _ 3 (wideOf_length _ _)] at this
    exact this
  have h4 := congrArg numOf h3
  rw [numOf_wide, numOf_wide, Nat.mod_eq_of_lt (by omega), Nat.mod_eq_of_lt (by omega)] at h4
  have h5 := congrArg List.length h
  rw [List.length_append, List.length_append, frame_len, frame_len] at h5
  exact absurd (List.eq_nil_of_length_eq_zero (by omega)) hq

/-- What stands behind the records is no frame, however much of it is left. -/
def TornJ (J : List UInt8) : Prop := ∀ m, (openL (J.take m)).2.2 ≠ 0
theorem TornJ.take {J : List UInt8} (h : TornJ J) (q : Nat) : TornJ (J.take q) := fun m => by rw [List.take_take]; exact h _
theorem TornJ.all {J : List UInt8} (h : TornJ J) : (openL J).2.2 ≠ 0 := by have := h J.length; rwa [List.take_length] at this
theorem torn_nil : TornJ [] := fun m => by rw [List.take_nil]; decide
theorem torn_part (inn : List UInt8) (q : Nat) (hi : inn.length ≤ 1048576) (hq : q < (frameL 1 inn).length) : TornJ ((frameL 1 inn).take q) := fun m => by
  rw [List.take_take]
  exact part_torn inn _ ((frameL 1 inn).drop (min m q)) hi (by intro e; have := congrArg List.length e; rw [List.length_drop, List.length_nil] at this; omega) (List.take_append_drop _ _).symm
theorem torn_word : TornJ [116, 111, 114, 110] := fun m => by
  match m with
  | 0 => decide
  | 1 => decide
  | 2 => decide
  | 3 => decide
  | n + 4 => rw [List.take_of_length_le (by simp)]; decide

theorem enc_mono (g : Nat) (L : List (List UInt8)) (i j : Nat) (h : i ≤ j) : (encL g (L.take i)).length ≤ (encL g (L.take j)).length := by
  have := enc_take_le g (L.take j) i
  rwa [List.take_take, Nat.min_eq_left h] at this
/-- What is left of the records, if of their bytes (and those behind) only the first are left. -/
theorem enc_cut (g : Nat) (L : List (List UInt8)) (J : List UInt8) (hJ : TornJ J) (hl : ∀ t ∈ L, t.length ≤ 262144) (k q : Nat) (hk : k ≤ L.length) (hq : (encL g (L.take k)).length ≤ q) :
    ∃ j J', k ≤ j ∧ j ≤ L.length ∧ (encL g L ++ J).take q = encL g (L.take j) ++ J' ∧ TornJ J' := by
  rcases Nat.lt_or_ge q (encL g L).length with hlt | hge
  · have key : ∀ t, t ≤ L.length → q < (encL g (L.take t)).length → ∃ j, k ≤ j ∧ j < t ∧ (encL g (L.take j)).length ≤ q ∧ q < (encL g (L.take (j + 1))).length := by
      intro t
      induction t with
      | zero => intro _ h; simp [encL] at h
      | succ t ih =>
        intro ht h
        rcases Nat.lt_or_ge q (encL g (L.take t)).length with h1 | h1
        · obtain ⟨j, a, b, c⟩ := ih (by omega) h1
          exact ⟨j, a, by omega, c⟩
        · refine ⟨t, ?_, by omega, h1, h⟩
          rcases Nat.lt_or_ge t k with h2 | h2
          · have := enc_mono g L (t + 1) k h2
            omega
          · exact h2
    obtain ⟨j, hkj, hj, h1, h2⟩ := key L.length (Nat.le_refl _) (by rw [List.take_length]; exact hlt)
    obtain ⟨m, rfl⟩ : ∃ m, q = (encL g (L.take j)).length + m := ⟨q - (encL g (L.take j)).length, by omega⟩
    rw [enc_take_succ g L j hj, List.length_append] at h2
    refine ⟨j, (spellL g L[j]).take m, hkj, by omega, ?_, ?_⟩
    · rw [enc_split g L j, enc_drop g L j hj, List.append_assoc, List.append_assoc, List.take_append, List.take_of_length_le (by omega), show (encL g (L.take j)).length + m - (encL g (L.take j)).length = m by omega, List.take_append_of_le_length (by omega)]
    · rw [spell_in] at h2 ⊢
      have := in_len g L[j] (hl _ (List.getElem_mem _))
      exact torn_part _ m (by omega) (by omega)
  · refine ⟨L.length, J.take (q - (encL g L).length), hk, Nat.le_refl _, ?_, hJ.take _⟩
    rw [List.take_length, List.take_append, List.take_of_length_le hge]

/-- The mark's text tells generation g and n bytes. -/
def MarkIs (M : List UInt8) (g n : Nat) : Prop := (M = [] ∧ g = 0 ∧ n = 0) ∨ M = markB g n
theorem MarkIs.len {M : List UInt8} {g n : Nat} (h : MarkIs M g n) : M.length ≤ 40 := by
  rcases h with ⟨rfl, _⟩ | rfl
  · simp
  · have := markB_le g n; omega
theorem MarkIs.parse {M : List UInt8} {g n : Nat} (h : MarkIs M g n) (hg : g < 18446744073709551616) (hn : n ≤ 1099511627776) : markL M = (g, (n : Int), true) := by
  rcases h with ⟨rfl, rfl, rfl⟩ | rfl
  · rfl
  · exact mark_back g n hg hn
def lgOf (g n : Nat) (L : List (List UInt8)) : LogS := ⟨g, (encL g L).length, L.length, decide (n < (encL g L).length)⟩

/-- Room enough for a log whose files have at most C bytes. -/
def Caps (C : Nat) (R : Int) : Prop := ((3 * C + 330 : Nat) : Int) ≤ R ∧ R ≤ 1099511627776 ∧ 8 ≤ C
/-- A log under way: its first k records are sure; fewer of them may be marked; behind them may stand what is no frame. -/
def Base (C : Nat) (R : Int) (d : DiskS) (g n : Nat) (L : List (List UInt8)) (J : List UInt8) (k v : Nat) : Prop :=
  ∃ (y a b M : List UInt8) (m j : Nat), d = dk g ⟨txt (encL g L ++ J), txt ((encL g L ++ J).take m), false⟩ (sureF y) (sureF a) (sureF b) R d.fail ∧ 0 ≤ d.fail ∧ d.fail ≤ 1073741825 ∧ y.length ≤ C ∧ a.length ≤ 110 ∧ b.length ≤ 110 ∧ Good a b v M ∧ MarkIs M g n ∧
    j ≤ k ∧ k ≤ L.length ∧ n = (encL g (L.take j)).length ∧ (encL g (L.take k)).length ≤ m ∧ m ≤ (encL g L ++ J).length ∧ (encL g L ++ J).length ≤ C ∧ TornJ J
abbrev Live (C : Nat) (R : Int) (d : DiskS) (g n : Nat) (L : List (List UInt8)) (k v : Nat) : Prop := Base C R d g n L [] k v
/-- A log behind a crash. -/
def Rest (C : Nat) (R : Int) (d : DiskS) (g n : Nat) (L : List (List UInt8)) (J : List UInt8) (k v : Nat) : Prop :=
  ∃ (y a b M : List UInt8), d = dk g (sureF (encL g L ++ J)) (sureF y) (sureF a) (sureF b) R d.fail ∧ 0 ≤ d.fail ∧ d.fail ≤ 1073741825 ∧ y.length ≤ C ∧ a.length ≤ 110 ∧ b.length ≤ 110 ∧ Heal a b v M ∧ MarkIs M g n ∧ k ≤ L.length ∧ n = (encL g (L.take k)).length ∧ (encL g L ++ J).length ≤ C ∧ TornJ J
/-- Whatever a crash leaves, a log is there, with a list of which A holds. -/
def Safe (C : Nat) (R : Int) (d : DiskS) (G V : Nat) (A : List (List UInt8) → Prop) : Prop :=
  d.fine ∧ d.ok ∧ ∀ cs, ∃ g n L J k v, Rest C R (d.crashIt cs) g n L J k v ∧ (d.crashIt cs).fail = 0 ∧ A L ∧ g ≤ G ∧ v ≤ V
theorem Safe.mono {C : Nat} {R : Int} {d : DiskS} {G V G' V' : Nat} {A B : List (List UInt8) → Prop} (h : Safe C R d G V A) (hA : ∀ L, A L → B L) (hG : G ≤ G') (hV : V ≤ V') : Safe C R d G' V' B := by
  obtain ⟨h1, h2, h3⟩ := h
  refine ⟨h1, h2, fun cs => ?_⟩
  obtain ⟨g, n, L, J, k, v, p1, p2, p3, p4, p5⟩ := h3 cs
  exact ⟨g, n, L, J, k, v, p1, p2, hA L p3, by omega, by omega⟩
theorem cut_weight (N : List UInt8) (n : Nat) (p : Bool) : (⟨txt N, txt (N.take n), p⟩ : FileS).weight = N.length := by rw [weight_put, List.length_take]; omega
theorem cut_small (N : List UInt8) (n : Nat) (h : N.length ≤ 1099511627776) (p : Bool) : (⟨txt N, txt (N.take n), p⟩ : FileS).small := small_put _ _ h (by rw [List.length_take]; omega) _
theorem cut_ok (N : List UInt8) (n : Nat) : (⟨txt N, txt (N.take n), false⟩ : FileS).ok := fun _ => by simp only [txt_size, List.length_take]; omega

/-- THE ONE WAY BY WHICH A DISK IS SAFE: the generation's file may lose what is not sure, the marks heal to what tells of it. -/
theorem safe_of (C : Nat) (R F : Int) (g n : Nat) (L : List (List UInt8)) (J : List UInt8) (m k v : Nat) (y x2 x3 : FileS) (G V : Nat) (A : List (List UInt8) → Prop) (hc : Caps C R) (h0 : 0 ≤ F) (h1 : F ≤ 1073741825)
    (hl : ∀ t ∈ L, t.length ≤ 262144) (hJ : TornJ J) (hk : k ≤ L.length) (hm : (encL g (L.take k)).length ≤ m) (hm2 : m ≤ (encL g L ++ J).length) (hC : (encL g L ++ J).length ≤ C)
    (hy : y.small ∧ y.ok ∧ ∀ c, ∃ p, y.cr c = sureF p ∧ p.length ≤ C) (h2 : Slim x2) (h3 : Slim x3)
    (hmk : ∀ c c', ∃ p q M w, x2.cr c = sureF p ∧ x3.cr c' = sureF q ∧ p.length ≤ 110 ∧ q.length ≤ 110 ∧ Heal p q w M ∧ w ≤ V ∧ ((∃ k' n', MarkIs M g n' ∧ k' ≤ k ∧ n' = (encL g (L.take k')).length) ∨ (∃ L', y = sureF (encL (g + 1) L') ∧ (encL (g + 1) L').length ≤ C ∧ MarkIs M (g + 1) (encL (g + 1) L').length ∧ A L' ∧ g + 1 ≤ G)))
    (hA : ∀ j, k ≤ j → j ≤ L.length → A (L.take j)) (hG : g ≤ G) : Safe C R (dk g ⟨txt (encL g L ++ J), txt ((encL g L ++ J).take m), false⟩ y x2 x3 R F) G V A := by
  obtain ⟨hc1, hc2, hc3⟩ := hc
  refine ⟨dk_fine _ _ _ _ _ _ _ (cut_small _ _ (by omega) _) hy.1 h2.1 h3.1 hc2 h0 h1, dk_ok _ _ _ _ _ _ _ (cut_ok _ _) hy.2.1 h2.2.1 h3.2.1, fun cs => ?_⟩
  obtain ⟨c0, c1, c2, c3, e⟩ := dk_crash g ⟨txt (encL g L ++ J), txt ((encL g L ++ J).take m), false⟩ y x2 x3 R F cs
  rw [e]
  obtain ⟨q, hq, e0⟩ := cr_app (encL g L ++ J) m hm2 c0
  obtain ⟨p1, e1, hp1⟩ := hy.2.2 c1
  obtain ⟨p2, p3, M, w, e2, e3, hp2, hp3, hh, hw, ⟨k', n', hM, hk', hn'⟩ | ⟨L', hy', hC', hM, hAL, hG'⟩⟩ := hmk c2 c3
  rotate_left
  · rw [e0, e2, e3, hy', cr_sure, ← dk_succ]
    refine ⟨g + 1, (encL (g + 1) L').length, L', [], L'.length, w, ⟨(encL g L ++ J).take q, p2, p3, M, by rw [dk_fail, List.append_nil], by rw [dk_fail]; exact Int.le_refl _, by rw [dk_fail]; decide, by rw [List.length_take]; omega, hp2, hp3, hh, hM, Nat.le_refl _, by rw [List.take_length], by rw [List.append_nil]; exact hC', torn_nil⟩, dk_fail _ _ _ _ _ _ _, hAL, hG', hw⟩
  obtain ⟨j, J', hj1, hj2, hcut, hJ'⟩ := enc_cut g L J hJ hl k q hk (by omega)
  rw [e0, e1, e2, e3, hcut]
  have hlen : (encL g (L.take j) ++ J').length ≤ C := by rw [← hcut, List.length_take]; omega
  refine ⟨g, n', L.take j, J', k', w, ⟨p1, p2, p3, M, by rw [dk_fail], by rw [dk_fail]; exact Int.le_refl _, by rw [dk_fail]; decide, hp1, hp2, hp3, hh, hM, by rw [List.length_take]; omega, by rw [List.take_take, Nat.min_eq_left (by omega)]; exact hn', hlen, hJ'⟩, dk_fail _ _ _ _ _ _ _, hA j hj1 hj2, hG, hw⟩
theorem sure_keeps (C : Nat) (y : List UInt8) (hy : y.length ≤ C) (hC : C ≤ 1099511627776) : (sureF y).small ∧ (sureF y).ok ∧ ∀ c, ∃ p, (sureF y).cr c = sureF p ∧ p.length ≤ C :=
  ⟨small_sure y (by omega), ok_sure y, fun c => ⟨y, cr_sure _ _, hy⟩⟩
theorem put_keeps (C : Nat) (N y : List UInt8) (hN : N.length ≤ C) (hy : y.length ≤ C) (hC : C ≤ 1099511627776) : (⟨txt N, txt y, true⟩ : FileS).small ∧ (⟨txt N, txt y, true⟩ : FileS).ok ∧ ∀ c, ∃ p, (⟨txt N, txt y, true⟩ : FileS).cr c = sureF p ∧ p.length ≤ C :=
  ⟨small_put N y (by omega) (by omega) _, ok_put _ _, fun c => by
    obtain ⟨p, hp, hpp⟩ := cr_put N y c
    refine ⟨p, hp, ?_⟩
    rcases hpp with rfl | ⟨q, hq⟩
    · exact hy
    · have := congrArg List.length hq
      rw [List.length_append] at this
      omega⟩
theorem marks_sure (a b : List UInt8) (v : Nat) (M : List UInt8) (ha : a.length ≤ 110) (hb : b.length ≤ 110) (h : Heal a b v M) : ∀ c c', ∃ p q, (sureF a).cr c = sureF p ∧ (sureF b).cr c' = sureF q ∧ p.length ≤ 110 ∧ q.length ≤ 110 ∧ Heal p q v M :=
  fun c c' => ⟨a, b, cr_sure _ _, cr_sure _ _, ha, hb, h⟩

theorem cut_keeps (C : Nat) (N : List UInt8) (m : Nat) (hm : m ≤ N.length) (hN : N.length ≤ C) (hC : C ≤ 1099511627776) : (⟨txt N, txt (N.take m), false⟩ : FileS).small ∧ (⟨txt N, txt (N.take m), false⟩ : FileS).ok ∧ ∀ c, ∃ p, (⟨txt N, txt (N.take m), false⟩ : FileS).cr c = sureF p ∧ p.length ≤ C :=
  ⟨cut_small _ _ (by omega) _, cut_ok _ _, fun c => by
    obtain ⟨q, _, h⟩ := cr_app N m hm c
    exact ⟨_, h, by rw [List.length_take]; omega⟩⟩
theorem base_safe {C : Nat} {R : Int} {d : DiskS} {g n : Nat} {L : List (List UInt8)} {J : List UInt8} {k v : Nat} (hc : Caps C R) (hl : ∀ t ∈ L, t.length ≤ 262144) (h : Base C R d g n L J k v) : Safe C R d g v (fun X => ∃ j, k ≤ j ∧ j ≤ L.length ∧ X = L.take j) := by
  obtain ⟨y, a, b, M, m, j, hd, h0, h1, hy, ha, hb, hg, hM, hj, hk, hn, hkm, hm, hC, hJ⟩ := h
  rw [hd]
  generalize d.fail = F at *
  have hc' := hc
  obtain ⟨hc1, hc2, hc3⟩ := hc
  exact safe_of C R F g n L J m k v (sureF y) (sureF a) (sureF b) g v (fun X => ∃ j, k ≤ j ∧ j ≤ L.length ∧ X = L.take j) hc' h0 h1 hl hJ hk hkm hm hC
    (sure_keeps C y hy (by omega)) (thin_sure _ ha) (thin_sure _ hb) (fun c c' => ⟨a, b, M, v, cr_sure _ _, cr_sure _ _, ha, hb, hg.heal, Nat.le_refl _, .inl ⟨j, n, hM, hj, hn⟩⟩) (fun j h1 h2 => ⟨j, h1, h2, rfl⟩) (Nat.le_refl _)
end Go.Proofs.Ytjaoiaknglnomaa

/- A log's calls on a disk of which one may fail: what they leave is a log under way, or safe. Plain laws; no program in sight. -/
namespace Go.Proofs.Ytjaoiaknglnomaa

theorem enc_snoc (g : Nat) (L : List (List UInt8)) (s : List UInt8) : encL g (L ++ [s]) = encL g L ++ spellL g s := by simp [encL]
theorem take_snoc (L : List (List UInt8)) (s : List UInt8) (k : Nat) (hk : k ≤ L.length) : (L ++ [s]).take k = L.take k := List.take_append_of_le_length hk
theorem spell_pos (g : Nat) (s : List UInt8) : 8 ≤ (spellL g s).length := by rw [spell_len]; omega

theorem append_live {C : Nat} {R : Int} {d : DiskS} {g n : Nat} {L : List (List UInt8)} {k v : Nat} (hc : Caps C R) (h : Live C R d g n L k v) (s : List UInt8) (hs : s.length ≤ 262144) (hfit : (encL g (L ++ [s])).length ≤ C) :
    ∃ d', d'.fail ≤ d.fail ∧ ((walAppend d (lgOf g n L) s = (0, d', lgOf g n (L ++ [s])) ∧ Live C R d' g n (L ++ [s]) k v) ∨ (d.fail ≠ 0 ∧ walAppend d (lgOf g n L) s = (8, d', lgOf g n L) ∧ Live C R d' g n L k v)) := by
  obtain ⟨y, a, b, M, m, j, hd, h0, h1, hy, ha, hb, hg, hM, hj, hk, hn, hkm, hm, hC, hJ⟩ := h
  obtain ⟨hc1, hc2, hc3⟩ := hc
  rw [List.append_nil] at hd hm hC
  have hnm : n ≤ m := by have := enc_mono g L j k hj; omega
  have hsn := enc_snoc g L s
  have hsp := spell_pos g s
  have hlen := congrArg List.length hsn
  rw [List.length_append] at hlen
  obtain ⟨F, hF⟩ : ∃ F, F = d.fail := ⟨_, rfl⟩
  rw [← hF] at hd h0 h1 ⊢
  subst hd
  obtain ⟨G, hG0, hG1, h⟩ := app_or (dk g ⟨txt (encL g L), txt ((encL g L).take m), false⟩ (sureF y) (sureF a) (sureF b) R F) (g % 2) (txt (spellL g s)) (by omega) (by rw [dk_fail]; exact h0)
    (by rw [dk_used, dk_room, cut_weight, weight_sure, weight_sure, weight_sure, txt_size]; omega)
  rw [dk_fail] at hG1 h
  rw [dk_till, dk_log, dk_set_log] at h
  simp only at h
  rw [txt_append, ← hsn] at h
  have e1 : walAppend (dk g ⟨txt (encL g L), txt ((encL g L).take m), false⟩ (sureF y) (sureF a) (sureF b) R F) (lgOf g n L) s = if ((dk g ⟨txt (encL g L), txt ((encL g L).take m), false⟩ (sureF y) (sureF a) (sureF b) R F).appendIt ((g % 2 : Nat) : Int) (txt (spellL g s))).1 = 0 then (0, ((dk g ⟨txt (encL g L), txt ((encL g L).take m), false⟩ (sureF y) (sureF a) (sureF b) R F).appendIt ((g % 2 : Nat) : Int) (txt (spellL g s))).2, ⟨g, (encL g L).length + (spellL g s).length, L.length + 1, true⟩)
      else (((dk g ⟨txt (encL g L), txt ((encL g L).take m), false⟩ (sureF y) (sureF a) (sureF b) R F).appendIt ((g % 2 : Nat) : Int) (txt (spellL g s))).1, ((dk g ⟨txt (encL g L), txt ((encL g L).take m), false⟩ (sureF y) (sureF a) (sureF b) R F).appendIt ((g % 2 : Nat) : Int) (txt (spellL g s))).2, lgOf g n L) := if_neg (by omega)
  rw [e1]
  rcases h with h | ⟨hz, h⟩
  · rw [h, if_pos rfl]
    refine ⟨dk g ⟨txt (encL g (L ++ [s])), txt ((encL g L).take m), false⟩ (sureF y) (sureF a) (sureF b) R G, by rw [dk_fail]; exact hG1, .inl ⟨?_, y, a, b, M, m, j, ?_, by rw [dk_fail]; exact hG0, by rw [dk_fail]; omega, hy, ha, hb, hg, hM, hj, by rw [List.length_append]; omega, by rw [take_snoc L s j (by omega)]; exact hn, by rw [take_snoc L s k hk]; exact hkm, by rw [List.append_nil]; omega, by rw [List.append_nil]; exact hfit, hJ⟩⟩
    · unfold lgOf
      have hlt : n < (encL g (L ++ [s])).length := by omega
      rw [hlen, List.length_append, decide_eq_true (by omega : n < (encL g L).length + (spellL g s).length)]
      rfl
    · rw [dk_fail, List.append_nil]
      have e : (encL g (L ++ [s])).take m = (encL g L).take m := by rw [hsn]; exact List.take_append_of_le_length hm
      rw [e]
  · rw [h]
    refine ⟨dk g ⟨txt (encL g L), txt ((encL g L).take m), false⟩ (sureF y) (sureF a) (sureF b) R G, by rw [dk_fail]; exact hG1, .inr ⟨hz, if_neg (show ¬ ((8 : Int) = 0) by decide), y, a, b, M, m, j, by rw [dk_fail, List.append_nil], by rw [dk_fail]; exact hG0, by rw [dk_fail]; omega, hy, ha, hb, hg, hM, hj, hk, hn, hkm, by rw [List.append_nil]; exact hm, by rw [List.append_nil]; exact hC, hJ⟩⟩

theorem live_n {C : Nat} {R : Int} {d : DiskS} {g n : Nat} {L J : List (List UInt8)} {k v : Nat} (h : Live C R d g n L k v) : n ≤ (encL g L).length ∧ (encL g L).length ≤ C := by
  obtain ⟨y, a, b, M, m, j, hd, h0, h1, hy, ha, hb, hg, hM, hj, hk, hn, hkm, hm, hC, hJ⟩ := h
  rw [List.append_nil] at hC
  exact ⟨by rw [hn]; exact enc_take_le g L j, hC⟩

theorem sync_live {C : Nat} {R : Int} {d : DiskS} {g n : Nat} {L : List (List UInt8)} {k v : Nat} (hc : Caps C R) (hl : ∀ t ∈ L, t.length ≤ 262144) (h : Live C R d g n L k v) (hv : v + 1 < 18446744073709551616) :
    ∃ d', d'.fail ≤ d.fail ∧ ((∃ v', v ≤ v' ∧ v' ≤ v + 1 ∧ walSync d (lgOf g n L) v = (0, d', lgOf g (encL g L).length L, v') ∧ Live C R d' g (encL g L).length L L.length v') ∨ (d.fail ≠ 0 ∧ ∃ l' v', walSync d (lgOf g n L) v = (8, d', l', v') ∧ Safe C R d' g (v + 1) (fun X => ∃ j, k ≤ j ∧ j ≤ L.length ∧ X = L.take j))) := by
  have hsafe := base_safe hc hl h
  have hc' := hc
  obtain ⟨y, a, b, M, m, j, hd, h0, h1, hy, ha, hb, hg, hM, hj, hk, hn, hkm, hm, hC, hJ⟩ := h
  obtain ⟨hc1, hc2, hc3⟩ := hc
  have hnE : n ≤ (encL g L).length := by rw [hn]; exact enc_take_le g L j
  by_cases hlo : n < (encL g L).length
  · rw [List.append_nil] at hd hm hC
    obtain ⟨F, hF⟩ : ∃ F, F = d.fail := ⟨_, rfl⟩
    rw [← hF] at hd h0 h1 ⊢
    subst hd
    obtain ⟨G, hG0, hG1, h⟩ := sync_or (dk g ⟨txt (encL g L), txt ((encL g L).take m), false⟩ (sureF y) (sureF a) (sureF b) R F) (g % 2) (by omega) (by rw [dk_fail]; exact h0)
    rw [dk_fail] at hG1 h
    rw [dk_till, dk_log, dk_set_log] at h
    simp only at h
    have e1 : walSync (dk g ⟨txt (encL g L), txt ((encL g L).take m), false⟩ (sureF y) (sureF a) (sureF b) R F) (lgOf g n L) v = if ((dk g ⟨txt (encL g L), txt ((encL g L).take m), false⟩ (sureF y) (sureF a) (sureF b) R F).syncIt ((g % 2 : Nat) : Int)).1 = 0 then
        if (((dk g ⟨txt (encL g L), txt ((encL g L).take m), false⟩ (sureF y) (sureF a) (sureF b) R F).syncIt ((g % 2 : Nat) : Int)).2.writeIt 2 v (markB g (encL g L).length)).1 = 0 then (0, (((dk g ⟨txt (encL g L), txt ((encL g L).take m), false⟩ (sureF y) (sureF a) (sureF b) R F).syncIt ((g % 2 : Nat) : Int)).2.writeIt 2 v (markB g (encL g L).length)).2.1, ⟨g, (encL g L).length, L.length, false⟩, (((dk g ⟨txt (encL g L), txt ((encL g L).take m), false⟩ (sureF y) (sureF a) (sureF b) R F).syncIt ((g % 2 : Nat) : Int)).2.writeIt 2 v (markB g (encL g L).length)).2.2)
        else ((((dk g ⟨txt (encL g L), txt ((encL g L).take m), false⟩ (sureF y) (sureF a) (sureF b) R F).syncIt ((g % 2 : Nat) : Int)).2.writeIt 2 v (markB g (encL g L).length)).1, (((dk g ⟨txt (encL g L), txt ((encL g L).take m), false⟩ (sureF y) (sureF a) (sureF b) R F).syncIt ((g % 2 : Nat) : Int)).2.writeIt 2 v (markB g (encL g L).length)).2.1, lgOf g n L, (((dk g ⟨txt (encL g L), txt ((encL g L).take m), false⟩ (sureF y) (sureF a) (sureF b) R F).syncIt ((g % 2 : Nat) : Int)).2.writeIt 2 v (markB g (encL g L).length)).2.2)
      else (((dk g ⟨txt (encL g L), txt ((encL g L).take m), false⟩ (sureF y) (sureF a) (sureF b) R F).syncIt ((g % 2 : Nat) : Int)).1, ((dk g ⟨txt (encL g L), txt ((encL g L).take m), false⟩ (sureF y) (sureF a) (sureF b) R F).syncIt ((g % 2 : Nat) : Int)).2, lgOf g n L, v) := by
      have hlt : (lgOf g n L).loose = true := decide_eq_true hlo
      unfold walSync
      rw [if_neg (by rw [hlt]; simp)]
      rfl
    rw [e1]
    rcases h with h | ⟨hz, h⟩
    · rw [h]
      simp only [if_true]
      have hml := markB_le g (encL g L).length
      obtain ⟨G', x2, x3, hG0', hG1', hmid, hw⟩ := write_or g ⟨txt (encL g L), txt (encL g L), false⟩ (sureF y) a b R G v (markB g (encL g L).length) hG0 (by omega) ha hb (by rw [show (⟨txt (encL g L), txt (encL g L), false⟩ : FileS).weight = (encL g L).length from weight_sure _, weight_sure]; omega)
      rcases hw with ⟨rfl, rfl, hw⟩ | ⟨hz', hw⟩
      · rw [hw]
        simp only [if_true]
        refine ⟨dk g ⟨txt (encL g L), txt (encL g L), false⟩ (sureF y) (sureF (spellL (v + 1) (markB g (encL g L).length))) (sureF (spellL (v + 1) (markB g (encL g L).length))) R G', by rw [dk_fail]; omega, .inl ⟨v + 1, by omega, Nat.le_refl _, ?_, y, spellL (v + 1) (markB g (encL g L).length), spellL (v + 1) (markB g (encL g L).length), markB g (encL g L).length, (encL g L).length, L.length, ?_, by rw [dk_fail]; exact hG0', by rw [dk_fail]; omega, hy, spellL_short _ _ (by omega), spellL_short _ _ (by omega), .inr ⟨by omega, rfl, rfl⟩, .inr rfl, Nat.le_refl _, Nat.le_refl _, by rw [List.take_length], by rw [List.take_length]; exact Nat.le_refl _, by rw [List.append_nil]; exact Nat.le_refl _, by rw [List.append_nil]; exact hC, hJ⟩⟩
        · unfold lgOf
          rw [decide_eq_false (Nat.lt_irrefl _)]
        · rw [dk_fail, List.append_nil, List.take_length]
      · rw [hw]
        simp only [show ¬ ((8 : Int) = 0) by decide, if_false]
        refine ⟨dk g ⟨txt (encL g L), txt (encL g L), false⟩ (sureF y) x2 x3 R G', by rw [dk_fail]; omega, .inr ⟨by omega, _, _, rfl, ?_⟩⟩
        obtain ⟨t2, t3⟩ := mid_thin ha hb (spellL_short _ _ (by omega)) hmid
        have hs := safe_of C R G' g n L [] (encL g L).length L.length v (sureF y) x2 x3 g (v + 1) (fun X => ∃ j, k ≤ j ∧ j ≤ L.length ∧ X = L.take j) hc' hG0' (by omega) hl torn_nil (Nat.le_refl _) (by rw [List.take_length]; exact Nat.le_refl _) (by rw [List.append_nil]; exact Nat.le_refl _) (by rw [List.append_nil]; exact hC) (sure_keeps C y hy (by omega)) t2 t3
          (fun c c' => by
            obtain ⟨p, q, e2, e3, hp, hq, hh⟩ := mid_heal hg hv hM.len (by omega) ha hb hmid c c'
            rcases hh with hh | hh
            · exact ⟨p, q, M, v, e2, e3, hp, hq, hh, by omega, .inl ⟨j, n, hM, by omega, hn⟩⟩
            · exact ⟨p, q, _, v + 1, e2, e3, hp, hq, hh, Nat.le_refl _, .inl ⟨L.length, _, .inr rfl, Nat.le_refl _, by rw [List.take_length]⟩⟩)
          (fun i h1 h2 => ⟨i, by omega, h2, rfl⟩) (Nat.le_refl _)
        rw [List.append_nil, List.take_length] at hs
        exact hs
    · rw [h]
      simp only [show ¬ ((8 : Int) = 0) by decide, if_false]
      refine ⟨dk g ⟨txt (encL g L), txt ((encL g L).take m), false⟩ (sureF y) (sureF a) (sureF b) R G, by rw [dk_fail]; exact hG1, .inr ⟨hz, _, _, rfl, ?_⟩⟩
      have hb2 : Live C R (dk g ⟨txt (encL g L), txt ((encL g L).take m), false⟩ (sureF y) (sureF a) (sureF b) R G) g n L k v := ⟨y, a, b, M, m, j, by rw [dk_fail, List.append_nil], by rw [dk_fail]; exact hG0, by rw [dk_fail]; omega, hy, ha, hb, hg, hM, hj, hk, hn, hkm, by rw [List.append_nil]; exact hm, by rw [List.append_nil]; exact hC, hJ⟩
      exact (base_safe hc' hl hb2).mono (fun _ h => h) (Nat.le_refl _) (by omega)
  · have hnn : n = (encL g L).length := by omega
    have e1 : walSync d (lgOf g n L) v = (0, d, lgOf g n L, v) := by
      have hlt : (lgOf g n L).loose = false := decide_eq_false hlo
      unfold walSync
      rw [if_pos hlt]
    refine ⟨d, Int.le_refl _, .inl ⟨v, Nat.le_refl _, by omega, by rw [e1, hnn], y, a, b, M, m, L.length, hd, h0, h1, hy, ha, hb, hg, by rw [← hnn]; exact hM, Nat.le_refl _, Nat.le_refl _, by rw [List.take_length], ?_, hm, hC, hJ⟩⟩
    have := enc_mono g L j k hj
    rw [List.take_length]
    omega
end Go.Proofs.Ytjaoiaknglnomaa

/- Rewrite and Open of a log on a disk of which a call may fail. Plain laws; no program in sight. -/
namespace Go.Proofs.Ytjaoiaknglnomaa

theorem txt_nil : (⟨#[]⟩ : ByteArray) = txt [] := rfl
set_option maxHeartbeats 1000000 in
theorem rewrite_base {C : Nat} {R : Int} {d : DiskS} {g n : Nat} {L : List (List UInt8)} {J : List UInt8} {k v : Nat} (hc : Caps C R) (hl : ∀ t ∈ L, t.length ≤ 262144) (h : Base C R d g n L J k v) (l : LogS) (hlg : l.gen = g) (L' : List (List UInt8)) (hl' : ∀ t ∈ L', t.length ≤ 262144) (hfit : (encL (g + 1) L').length ≤ C) (hv : v + 1 < 18446744073709551616) :
    ∃ d', d'.fail ≤ d.fail ∧ ((walRewrite d l v L' = (0, d', lgOf (g + 1) (encL (g + 1) L').length L', v + 1) ∧ Live C R d' (g + 1) (encL (g + 1) L').length L' L'.length (v + 1)) ∨
      (d.fail ≠ 0 ∧ ∃ l' v', walRewrite d l v L' = (8, d', l', v') ∧ Safe C R d' (g + 1) (v + 1) (fun X => X = L' ∨ ∃ j, k ≤ j ∧ j ≤ L.length ∧ X = L.take j))) := by
  have hc' := hc
  have hbs := fun D (h : Base C R D g n L J k v) => (base_safe hc' hl h).mono (B := fun X => X = L' ∨ ∃ j, k ≤ j ∧ j ≤ L.length ∧ X = L.take j) (fun _ h => .inr h) (Nat.le_succ g) (Nat.le_succ v)
  obtain ⟨y, a, b, M, m, j, hd, h0, h1, hy, ha, hb, hg, hM, hj, hk, hn, hkm, hm, hC, hJ⟩ := h
  obtain ⟨hc1, hc2, hc3⟩ := hc
  have mkb : ∀ G, 0 ≤ G → G ≤ 1073741825 → Base C R (dk g ⟨txt (encL g L ++ J), txt ((encL g L ++ J).take m), false⟩ (sureF y) (sureF a) (sureF b) R G) g n L J k v := fun G g0 g1 =>
    ⟨y, a, b, M, m, j, by rw [dk_fail], by rw [dk_fail]; exact g0, by rw [dk_fail]; exact g1, hy, ha, hb, hg, hM, hj, hk, hn, hkm, hm, hC, hJ⟩
  obtain ⟨F, hF⟩ : ∃ F, F = d.fail := ⟨_, rfl⟩
  rw [← hF] at hd h0 h1 ⊢
  subst hd
  obtain ⟨lg, ls, lr, ll⟩ := l
  simp only at hlg
  subst hlg
  have hml := markB_le (lg + 1) (encL (lg + 1) L').length
  have hE : (encL lg L ++ J).length ≤ C := hC
  obtain ⟨G, hG0, hG1, h⟩ := rep_or (dk lg ⟨txt (encL lg L ++ J), txt ((encL lg L ++ J).take m), false⟩ (sureF y) (sureF a) (sureF b) R F) ((lg + 1) % 2) (encL (lg + 1) L') (by omega) (by rw [dk_fail]; exact h0)
    (by rw [dk_used, dk_room, cut_weight, weight_sure, weight_sure, weight_sure]; omega)
  rw [dk_fail] at hG1 h
  rw [dk_till, dk_oth, dk_set_oth, dk_set_oth] at h
  have e1 : walRewrite (dk lg ⟨txt (encL lg L ++ J), txt ((encL lg L ++ J).take m), false⟩ (sureF y) (sureF a) (sureF b) R F) ⟨lg, ls, lr, ll⟩ v L' = walRw1 ((dk lg ⟨txt (encL lg L ++ J), txt ((encL lg L ++ J).take m), false⟩ (sureF y) (sureF a) (sureF b) R F).replaceIt (((lg + 1) % 2 : Nat) : Int) (txt (encL (lg + 1) L'))) ⟨lg, ls, lr, ll⟩ v L' := rfl
  rw [e1]
  rcases h with h | ⟨hz, h | h⟩
  · rw [h]
    unfold walRw1
    rw [if_pos rfl]
    simp only
    obtain ⟨G', x2, x3, hG0', hG1', hmid, hw⟩ := write_or lg ⟨txt (encL lg L ++ J), txt ((encL lg L ++ J).take m), false⟩ (sureF (encL (lg + 1) L')) a b R G v (markB (lg + 1) (encL (lg + 1) L').length) hG0 (by omega) ha hb (by rw [cut_weight, weight_sure]; omega)
    rcases hw with ⟨rfl, rfl, hw⟩ | ⟨hz', hw⟩
    · rw [hw]
      unfold walRw2
      rw [if_pos rfl]
      simp only
      have hNs := spellL_short (v + 1) (markB (lg + 1) (encL (lg + 1) L').length) (by omega)
      have hgN : Good (spellL (v + 1) (markB (lg + 1) (encL (lg + 1) L').length)) (spellL (v + 1) (markB (lg + 1) (encL (lg + 1) L').length)) (v + 1) (markB (lg + 1) (encL (lg + 1) L').length) := .inr ⟨by omega, rfl, rfl⟩
      generalize spellL (v + 1) (markB (lg + 1) (encL (lg + 1) L').length) = N at *
      -- the new generation's file and its marks are sure: whatever becomes of the old one
      have new : ∀ (x : FileS) (G'' : Int), 0 ≤ G'' → G'' ≤ 1073741825 → (x.small ∧ x.ok ∧ ∀ c, ∃ p, x.cr c = sureF p ∧ p.length ≤ C) → Safe C R (dk lg x (sureF (encL (lg + 1) L')) (sureF N) (sureF N) R G'') (lg + 1) (v + 1) (fun X => X = L' ∨ ∃ j, k ≤ j ∧ j ≤ L.length ∧ X = L.take j) := fun x G'' g0 g1 hx => by
        have hs := safe_of C R G'' (lg + 1) (encL (lg + 1) L').length L' [] (encL (lg + 1) L').length L'.length (v + 1) x (sureF N) (sureF N) (lg + 1) (v + 1) (fun X => X = L' ∨ ∃ j, k ≤ j ∧ j ≤ L.length ∧ X = L.take j) hc' g0 g1 hl' torn_nil (Nat.le_refl _) (by rw [List.take_length]; exact Nat.le_refl _) (by rw [List.append_nil]; exact Nat.le_refl _) (by rw [List.append_nil]; exact hfit) hx (thin_sure _ hNs) (thin_sure _ hNs)
          (fun c c' => ⟨N, N, _, v + 1, cr_sure _ _, cr_sure _ _, hNs, hNs, hgN.heal, Nat.le_refl _, .inl ⟨L'.length, _, .inr rfl, Nat.le_refl _, by rw [List.take_length]⟩⟩)
          (fun i h1 h2 => .inl (by rw [show i = L'.length by omega, List.take_length])) (Nat.le_refl _)
        rw [List.append_nil, List.take_length, dk_succ] at hs
        exact hs
      obtain ⟨G3, hG30, hG31, h3⟩ := rep_or (dk lg ⟨txt (encL lg L ++ J), txt ((encL lg L ++ J).take m), false⟩ (sureF (encL (lg + 1) L')) (sureF N) (sureF N) R G') (lg % 2) [] (by omega) (by rw [dk_fail]; exact hG0')
        (by rw [dk_used, dk_room, cut_weight, weight_sure, weight_sure, List.length_nil]; omega)
      rw [dk_fail] at hG31 h3
      rw [dk_till, dk_log, dk_set_log, dk_set_log] at h3
      rw [txt_nil]
      rcases h3 with h3 | ⟨hz3, h3 | h3⟩
      · rw [h3]
        refine ⟨dk lg (sureF []) (sureF (encL (lg + 1) L')) (sureF N) (sureF N) R G3, by rw [dk_fail]; omega, .inl ⟨?_, [], N, N, _, (encL (lg + 1) L').length, L'.length, ?_, by rw [dk_fail]; exact hG30, by rw [dk_fail]; omega, by simp, hNs, hNs, hgN, .inr rfl, Nat.le_refl _, Nat.le_refl _, by rw [List.take_length], by rw [List.take_length]; exact Nat.le_refl _, by rw [List.append_nil]; exact Nat.le_refl _, by rw [List.append_nil]; exact hfit, torn_nil⟩⟩
        · unfold lgOf
          rw [decide_eq_false (Nat.lt_irrefl _)]
        · rw [dk_fail, List.append_nil, List.take_length, dk_succ]
          rfl
      · rw [h3]
        exact ⟨_, by rw [dk_fail]; omega, .inr ⟨by omega, _, _, rfl, new _ G3 hG30 (by omega) (cut_keeps C _ m hm hC (by omega))⟩⟩
      · rw [h3]
        exact ⟨_, by rw [dk_fail]; omega, .inr ⟨by omega, _, _, rfl, new _ G3 hG30 (by omega) (put_keeps C [] _ (by simp) (by rw [List.length_take]; omega) (by omega))⟩⟩
    · rw [hw]
      unfold walRw2
      rw [if_neg (show ¬ ((8 : Int) = 0) by decide)]
      simp only
      refine ⟨dk lg ⟨txt (encL lg L ++ J), txt ((encL lg L ++ J).take m), false⟩ (sureF (encL (lg + 1) L')) x2 x3 R G', by rw [dk_fail]; omega, .inr ⟨by omega, _, _, rfl, ?_⟩⟩
      obtain ⟨t2, t3⟩ := mid_thin ha hb (spellL_short _ _ (by omega)) hmid
      exact safe_of C R G' lg n L J m k v (sureF (encL (lg + 1) L')) x2 x3 (lg + 1) (v + 1) (fun X => X = L' ∨ ∃ j, k ≤ j ∧ j ≤ L.length ∧ X = L.take j) hc' hG0' (by omega) hl hJ hk hkm hm hC (sure_keeps C _ hfit (by omega)) t2 t3
        (fun c c' => by
          obtain ⟨p, q, e2, e3, hp, hq, hh⟩ := mid_heal hg hv hM.len (by omega) ha hb hmid c c'
          rcases hh with hh | hh
          · exact ⟨p, q, M, v, e2, e3, hp, hq, hh, by omega, .inl ⟨j, n, hM, hj, hn⟩⟩
          · exact ⟨p, q, _, v + 1, e2, e3, hp, hq, hh, Nat.le_refl _, .inr ⟨L', rfl, hfit, .inr rfl, .inl rfl, Nat.le_refl _⟩⟩)
        (fun i h1 h2 => .inr ⟨i, h1, h2, rfl⟩) (Nat.le_succ _)
  · rw [h]
    unfold walRw1
    rw [if_neg (show ¬ ((8 : Int) = 0) by decide)]
    exact ⟨_, by rw [dk_fail]; omega, .inr ⟨hz, _, _, rfl, hbs _ (mkb G hG0 (by omega))⟩⟩
  · rw [h]
    unfold walRw1
    rw [if_neg (show ¬ ((8 : Int) = 0) by decide)]
    refine ⟨dk lg ⟨txt (encL lg L ++ J), txt ((encL lg L ++ J).take m), false⟩ ⟨txt (encL (lg + 1) L'), (sureF y).sure, true⟩ (sureF a) (sureF b) R G, by rw [dk_fail]; omega, .inr ⟨hz, _, _, rfl, ?_⟩⟩
    exact safe_of C R G lg n L J m k v ⟨txt (encL (lg + 1) L'), txt y, true⟩ (sureF a) (sureF b) (lg + 1) (v + 1) (fun X => X = L' ∨ ∃ j, k ≤ j ∧ j ≤ L.length ∧ X = L.take j) hc' hG0 (by omega) hl hJ hk hkm hm hC (put_keeps C _ y hfit hy (by omega)) (thin_sure _ ha) (thin_sure _ hb)
      (fun c c' => ⟨a, b, M, v, cr_sure _ _, cr_sure _ _, ha, hb, hg.heal, by omega, .inl ⟨j, n, hM, hj, hn⟩⟩)
      (fun i h1 h2 => .inr ⟨i, h1, h2, rfl⟩) (Nat.le_succ _)
end Go.Proofs.Ytjaoiaknglnomaa

/- Open of a log: behind a crash, on a disk of which a call may fail; and in peace. Plain laws; no program in sight. -/
namespace Go.Proofs.Ytjaoiaknglnomaa

theorem file_log (g : Nat) (x : List UInt8) (y x2 x3 : FileS) (r F : Int) : (dk g (sureF x) y x2 x3 r F).file ((g % 2 : Nat) : Int) = x := by
  rw [file_get _ _ (by omega), dk_log, sure_bytes]
theorem file_cut (g : Nat) (x : List UInt8) (m : Nat) (p : Bool) (y x2 x3 : FileS) (r F : Int) : (dk g ⟨txt x, txt (x.take m), p⟩ y x2 x3 r F).file ((g % 2 : Nat) : Int) = x := by
  rw [file_get _ _ (by omega), dk_log]
  simp [txt]

set_option maxHeartbeats 1000000 in
theorem open_rest {C : Nat} {R : Int} {d : DiskS} {g n : Nat} {L : List (List UInt8)} {J : List UInt8} {k v : Nat} (hc : Caps C R) (hCb : C ≤ 1000000) (hl : ∀ t ∈ L, t.length ≤ 262144) (h : Rest C R d g n L J k v) (hfit : (encL (g + 1) L).length ≤ C) (hv : v + 1 < 1099511627776) (hg : g < 18446744073709551616) :
    (∀ w, (d.openIt 2).1 = some w → markL (d.openIt 2).2.1 = (g, (n : Int), true) ∧ (d.openIt 2).2.2.2.file ((g % 2 : Nat) : Int) = encL g L ++ J ∧ w < 1099511627776) ∧
    ∃ d', d'.fail ≤ d.fail ∧ ((∃ g' n' v', g' ≤ g + 1 ∧ v' ≤ v + 1 ∧ walOpen (d.openIt 2) g n L J = (0, d', lgOf g' n' L, v') ∧ Live C R d' g' n' L L.length v') ∨
      (d.fail ≠ 0 ∧ ∃ l' v', walOpen (d.openIt 2) g n L J = (8, d', l', v') ∧ Safe C R d' (g + 1) (v + 1) (fun X => X = L))) := by
  have hc' := hc
  obtain ⟨y, a, b, M, hd, h0, h1, hy, ha, hb, hh, hM, hk, hn, hC, hJ⟩ := h
  obtain ⟨hc1, hc2, hc3⟩ := hc
  have hnE : n ≤ (encL g L).length := by rw [hn]; exact enc_take_le g L k
  have hEC : (encL g L).length ≤ C := by rw [List.length_append] at hC; omega
  have hmp := hM.parse hg (by omega)
  obtain ⟨F, hF⟩ : ∃ F, F = d.fail := ⟨_, rfl⟩
  rw [← hF] at hd h0 h1 ⊢
  subst hd
  obtain ⟨G, hG0, hG1, ho⟩ := open_or g (sureF (encL g L ++ J)) (sureF y) a b R F v M h0 hM.len (by omega) ha hb hh (by rw [weight_sure, weight_sure]; omega)
  rcases ho with ⟨a', b', hgd, ha', hb', ho⟩ | ⟨hz, x2, x3, ho, t2, t3, hcr⟩
  · rw [ho]
    refine ⟨fun w hw => ?_, ?_⟩
    · simp only [Option.some.injEq] at hw
      subst hw
      exact ⟨hmp, file_log _ _ _ _ _ _ _, by omega⟩
    · have hbase : Base C R (dk g (sureF (encL g L ++ J)) (sureF y) (sureF a') (sureF b') R G) g n L J L.length v :=
        ⟨y, a', b', M, (encL g L ++ J).length, k, by rw [dk_fail, List.take_length]; rfl, by rw [dk_fail]; exact hG0, by rw [dk_fail]; omega, hy, ha', hb', hgd, hM, hk, Nat.le_refl _, hn, by rw [List.take_length, List.length_append]; omega, Nat.le_refl _, hC, hJ⟩
      unfold walOpen
      simp only
      by_cases hJ0 : J = []
      · rw [if_pos hJ0]
        subst hJ0
        exact ⟨_, by rw [dk_fail]; exact hG1, .inl ⟨g, n, v, by omega, by omega, rfl, hbase⟩⟩
      · rw [if_neg hJ0]
        obtain ⟨d', hf', hr⟩ := rewrite_base hc' hl hbase ⟨g, (encL g L).length, L.length, decide (n < (encL g L).length)⟩ rfl L hl hfit (by omega)
        rw [dk_fail] at hf' hr
        refine ⟨d', by omega, ?_⟩
        rcases hr with ⟨hr, hlv⟩ | ⟨hz, l', v', hr, hs⟩
        · exact .inl ⟨g + 1, _, v + 1, Nat.le_refl _, Nat.le_refl _, hr, hlv⟩
        · refine .inr ⟨by omega, l', v', hr, hs.mono (fun X hX => ?_) (Nat.le_refl _) (Nat.le_refl _)⟩
          rcases hX with hX | ⟨j, h1, h2, hX⟩
          · exact hX
          · rw [hX, show j = L.length by omega, List.take_length]
  · rw [ho]
    refine ⟨fun w hw => (by cases hw), dk g (sureF (encL g L ++ J)) (sureF y) x2 x3 R G, by rw [dk_fail]; exact hG1, .inr ⟨hz, _, _, rfl, ?_⟩⟩
    have hs := safe_of C R G g n L J (encL g L ++ J).length L.length v (sureF y) x2 x3 (g + 1) (v + 1) (fun X => X = L) hc' hG0 (by omega) hl hJ (Nat.le_refl _) (by rw [List.take_length, List.length_append]; omega) (Nat.le_refl _) hC (sure_keeps C y hy (by omega)) t2 t3
      (fun c c' => by
        obtain ⟨p, q, e2, e3, hp, hq, hh'⟩ := hcr c c'
        exact ⟨p, q, M, v, e2, e3, hp, hq, hh', by omega, .inl ⟨k, n, hM, hk, hn⟩⟩)
      (fun i h1 h2 => by rw [show i = L.length by omega, List.take_length]) (by omega)
    rw [List.take_length] at hs
    exact hs

theorem open_good (g : Nat) (x y : FileS) (a b : List UInt8) (r F : Int) (v : Nat) (M : List UInt8) (hM : M.length ≤ 40) (hv : v < 18446744073709551616) (hh : Good a b v M) :
    (dk g x y (sureF a) (sureF b) r F).openIt 2 = (some v, M, 0, dk g x y (sureF a) (sureF b) r F) := by
  have e2 : (dk g x y (sureF a) (sureF b) r F).file 2 = a := by
    have h := file_get (dk g x y (sureF a) (sureF b) r F) 2 (by decide)
    rw [dk_two, sure_bytes] at h
    exact h
  have e3 : (dk g x y (sureF a) (sureF b) r F).file (2 + 1) = b := by
    have h := file_get (dk g x y (sureF a) (sureF b) r F) 3 (by decide)
    rw [dk_three, sure_bytes] at h
    exact h
  unfold DiskS.openIt
  rw [e2, e3]
  simp only
  rcases hh with ⟨rfl, rfl, ⟨bd, hba⟩, rfl⟩ | ⟨hv0, rfl, rfl⟩
  · rw [hba, parse_none]
    simp only [Bool.false_eq_true, false_and, if_false, and_self, if_true]
  · have hp := parse_spell v M hv hv0 (by omega)
    rw [hp]
    simp only
    rw [if_neg (by simp), if_neg (by simp [hv0]), if_neg (Nat.lt_irrefl _)]
    have hm : (dk g x y (sureF (spellL v M)) (sureF (spellL v M)) r F).mendIt 2 ⟨v, M, false⟩ ⟨v, M, false⟩ ⟨v, M, false⟩ = (0, dk g x y (sureF (spellL v M)) (sureF (spellL v M)) r F) := by simp [DiskS.mendIt]
    rw [hm]
    exact if_neg (by simp)
theorem open_live {C : Nat} {R : Int} {d : DiskS} {g n : Nat} {L : List (List UInt8)} {k v : Nat} (hCb : C ≤ 1000000) (h : Live C R d g n L k v) (hv : v < 1099511627776) (hg : g < 18446744073709551616) :
    (∀ w, (d.openIt 2).1 = some w → markL (d.openIt 2).2.1 = (g, (n : Int), true) ∧ (d.openIt 2).2.2.2.file ((g % 2 : Nat) : Int) = encL g L ++ [] ∧ w < 1099511627776) ∧ walOpen (d.openIt 2) g n L [] = (0, d, lgOf g n L, v) := by
  have hn' := live_n (J := []) h
  obtain ⟨y, a, b, M, m, j, hd, h0, h1, hy, ha, hb, hgd, hM, hj, hk, hn, hkm, hm, hC, hJ⟩ := h
  have hmp := hM.parse hg (by omega)
  obtain ⟨F, hF⟩ : ∃ F, F = d.fail := ⟨_, rfl⟩
  rw [← hF] at hd h0 h1
  subst hd
  have ho := open_good g ⟨txt (encL g L ++ []), txt ((encL g L ++ []).take m), false⟩ (sureF y) a b R F v M hM.len (by omega) hgd
  rw [ho]
  refine ⟨fun w hw => ?_, ?_⟩
  · simp only [Option.some.injEq] at hw
    subst hw
    exact ⟨hmp, file_cut _ _ _ _ _ _ _ _ _, hv⟩
  · unfold walOpen
    simp only [if_true]
    rfl
theorem met_mark (g n : Nat) (L : List (List UInt8)) (j : Nat) (hj : j ≤ L.length) (hn : n = (encL g (L.take j)).length) : metB g L n L.length = true := met_of g L n L.length j hj hn.symm
theorem base_met {C : Nat} {R : Int} {d : DiskS} {g n : Nat} {L : List (List UInt8)} {J : List UInt8} {k v : Nat} (h : Base C R d g n L J k v) : metB g L n L.length = true := by
  obtain ⟨y, a, b, M, m, j, hd, h0, h1, hy, ha, hb, hgd, hM, hj, hk, hn, hkm, hm, hC, hJ⟩ := h
  exact met_mark g n L j (by omega) hn
theorem rest_met {C : Nat} {R : Int} {d : DiskS} {g n : Nat} {L : List (List UInt8)} {J : List UInt8} {k v : Nat} (h : Rest C R d g n L J k v) : metB g L n L.length = true := by
  obtain ⟨y, a, b, M, hd, h0, h1, hy, ha, hb, hh, hM, hk, hn, hC, hJ⟩ := h
  exact met_mark g n L k hk hn
theorem rest_fine {C : Nat} {R : Int} {d : DiskS} {g n : Nat} {L : List (List UInt8)} {J : List UInt8} {k v : Nat} (hc : Caps C R) (h : Rest C R d g n L J k v) : d.fine ∧ d.ok ∧ (encL g L ++ J).length ≤ C ∧ TornJ J := by
  obtain ⟨y, a, b, M, hd, h0, h1, hy, ha, hb, hh, hM, hk, hn, hC, hJ⟩ := h
  obtain ⟨hc1, hc2, hc3⟩ := hc
  rw [hd]
  exact ⟨dk_fine _ _ _ _ _ _ _ (small_sure _ (by omega)) (small_sure _ (by omega)) (small_sure _ (by omega)) (small_sure _ (by omega)) hc2 h0 h1, dk_ok _ _ _ _ _ _ _ (ok_sure _) (ok_sure _) (ok_sure _) (ok_sure _), hC, hJ⟩
theorem base_till {C : Nat} {R : Int} {d : DiskS} {g n : Nat} {L : List (List UInt8)} {J : List UInt8} {k v : Nat} (h : Base C R d g n L J k v) (F : Int) (h0 : 0 ≤ F) (h1 : F ≤ 1073741825) : Base C R (d.till F) g n L J k v := by
  obtain ⟨y, a, b, M, m, j, hd, _, _, hy, r⟩ := h
  exact ⟨y, a, b, M, m, j, by rw [hd, dk_till]; exact congrArg _ (dk_fail _ _ _ _ _ _ _).symm, h0, h1, hy, r⟩
theorem rest_till {C : Nat} {R : Int} {d : DiskS} {g n : Nat} {L : List (List UInt8)} {J : List UInt8} {k v : Nat} (h : Rest C R d g n L J k v) (F : Int) (h0 : 0 ≤ F) (h1 : F ≤ 1073741825) : Rest C R (d.till F) g n L J k v := by
  obtain ⟨y, a, b, M, hd, _, _, hy, r⟩ := h
  exact ⟨y, a, b, M, by rw [hd, dk_till]; exact congrArg _ (dk_fail _ _ _ _ _ _ _).symm, h0, h1, hy, r⟩
theorem torn_live {C : Nat} {R : Int} {d : DiskS} {g n : Nat} {L : List (List UInt8)} {k v : Nat} (hc : Caps C R) (h : Live C R d g n L k v) (hz : d.fail = 0) (hfit : (encL g L).length + 4 ≤ C) :
    ∃ d', d.appendIt ((g % 2 : Nat) : Int) (txt [116, 111, 114, 110]) = (0, d') ∧ Base C R d' g n L [116, 111, 114, 110] k v ∧ d'.fail = 0 := by
  obtain ⟨y, a, b, M, m, j, hd, h0, h1, hy, ha, hb, hg, hM, hj, hk, hn, hkm, hm, hC, hJ⟩ := h
  obtain ⟨hc1, hc2, hc3⟩ := hc
  rw [List.append_nil] at hd hm hC
  rw [hz] at hd
  subst hd
  have hl4 : (txt [116, 111, 114, 110]).size = 4 := rfl
  obtain ⟨G, hG0, hG1, h⟩ := app_or (dk g ⟨txt (encL g L), txt ((encL g L).take m), false⟩ (sureF y) (sureF a) (sureF b) R 0) (g % 2) (txt [116, 111, 114, 110]) (by omega) (by rw [dk_fail]; exact Int.le_refl _)
    (by rw [dk_used, dk_room, cut_weight, weight_sure, weight_sure, weight_sure, hl4]; omega)
  rw [dk_fail] at hG1 h
  rw [dk_till, dk_log, dk_set_log] at h
  simp only at h
  rw [txt_append] at h
  rcases h with h | ⟨hz', _⟩
  · refine ⟨_, h, ⟨y, a, b, M, m, j, ?_, by rw [dk_fail]; exact hG0, by rw [dk_fail]; omega, hy, ha, hb, hg, hM, hj, hk, hn, hkm, by rw [List.length_append]; omega, by rw [List.length_append]; exact hfit, torn_word⟩, by rw [dk_fail]; omega⟩
    rw [dk_fail, List.take_append_of_le_length hm]
  · exact absurd rfl hz'
/-- The empty disk. -/
theorem rest_bare (C : Nat) (R : Int) : Rest C R (dk 0 (sureF []) (sureF []) (sureF []) (sureF []) R 0) 0 0 [] [] 0 0 :=
  ⟨[], [], [], [], rfl, Int.le_refl _, (show (0 : Int) ≤ 1073741825 by decide), by simp, by simp, by simp, .inl ⟨rfl, rfl, ⟨false, parse_none⟩, rfl⟩, .inl ⟨rfl, rfl, rfl⟩, Nat.le_refl _, rfl, by simp [encL], torn_nil⟩
theorem bare_dk (R : Int) : bareD R = dk 0 (sureF []) (sureF []) (sureF []) (sureF []) R 0 := rfl
end Go.Proofs.Ytjaoiaknglnomaa
