/-
  The reference's cursor (chatelaineref01.fail, take, Done), walked: it answers as code.Reader. Condition: texts of sizes that there are.
-/
import Derived.Test.YtjaoiaknglnomaaWm9
import Derived.BigRegion
import Derived.Deep.DeepCutAuto
set_option linter.unusedVariables false
set_option linter.unusedSimpArgs false
set_option maxRecDepth 100000
namespace Go.Proofs.Ytjaoiaknglnomaa
open Go.RowKit

theorem set2 {w : World} {k T : Nat} {a0 a1 : Value} (h : Blk w k #[a0, a1] T) (v0 v1 : Value) :
    ∃ W, ((w.setCell ⟨k, 0, none⟩ v0).setCell ⟨k, 1, none⟩ v1) = W ∧ Upd [k] w W ∧ Blk W k #[v0, v1] T := by
  have h0 : Blk _ k #[v0, a1] T := h.set 0 v0
  have h1 : Blk _ k #[v0, v1] T := h0.set 1 v1
  have hx := Upd.refl [k] w
  exact ⟨_, rfl, (by repeat (first | with_reducible exact hx | with_reducible exact Upd.refl _ _ | with_reducible refine Upd.alloc ?_ _ | with_reducible refine Upd.drew ?_ | with_reducible refine Upd.setCell ?_ (by first | (simp; done) | (simp; omega)) _)), h1⟩

set_option maxHeartbeats 2000000 in
theorem refFail_any (r : RdS) (e : Int) (w : World) :
    Calls Try.prog 97 #[.agg #[.string (txt r.left), .int .i64 r.err], .int .i64 e] w fun x w' => x = .returned (.agg #[.string (txt (r.fail e).left), .int .i64 (r.fail e).err]) ∧ Upd [] w w' := by
  obtain ⟨l, er⟩ := r
  have e2 := two_new2 w #[.string (txt l), .int .i64 er] #[.string ⟨#[]⟩, .int .i64 0] 131 131
  by_cases h0 : er = 0
  · have HF := hd (show RdS.fail ⟨l, er⟩ e = ⟨l, e⟩ by unfold RdS.fail; rw [if_pos h0])
    rw [HF.out]
    have h0' : (er == 0) = true := by simpa using h0
    clear h0
    go_enter Try.func97, Try.ntmps97
    go_upto_region 1 with fail
    obtain ⟨W, hW, hu, hA, hB, hsz⟩ := e2
    rw [hW]
    clear hW hsz
    have hac := hA.cell
    have haz := hA.frozen
    have e3 : ∃ W1, W.setCell ⟨w.heap.size, 1, none⟩ (.int .i64 e) = W1 ∧ Upd [] w W1 ∧ Blk W1 w.heap.size #[.string (txt l), .int .i64 e] 131 ∧ Blk W1 (w.heap.size + 1) #[.string ⟨#[]⟩, .int .i64 0] 131 :=
      ⟨_, rfl, hu.trans' ((Upd.refl [w.heap.size] W).setCell (by simp) _) (by intro i hi; simp at hi; omega), hA.set 1 _, hB.set_other (by simp) _⟩
    go_upto_region 3 with fail
    obtain ⟨W1, hW1, hu1, hA1, hB1⟩ := e3
    rw [hW1]
    clear hW1 hac haz hA hB hu
    have hac := hA1.cell
    have hbq := hB1.cell
    have hbz := hB1.frozen
    obtain ⟨W2, e8, u8, b8⟩ := set2 hB1 (.string (txt l)) (.int .i64 e)
    have HE := hd e8
    have HU := hd (hu1.trans' u8 (by intro i hi; simp at hi; omega))
    have HB := hd b8
    clear e8 u8 b8 hA1 hB1 hu1
    go_wp2_with fail
    rw [HE.out]
    have hbc := HB.out.cell
    refine bodyPost_ret (v := .agg #[.string (txt l), .int .i64 e]) (by simp [results, Try.results97, go_sem, hbc]) rfl ?_
    exact ⟨rfl, HU.out⟩
  · have HF := hd (show RdS.fail ⟨l, er⟩ e = ⟨l, er⟩ by unfold RdS.fail; rw [if_neg h0])
    rw [HF.out]
    have h0' : (er == 0) = false := by simpa using h0
    clear h0
    go_enter Try.func97, Try.ntmps97
    go_upto_region 1 with fail
    obtain ⟨W, hW, hu, hA, hB, hsz⟩ := e2
    rw [hW]
    clear hW hsz
    have hac := hA.cell
    have hbq := hB.cell
    have hbz := hB.frozen
    obtain ⟨W2, e8, u8, b8⟩ := set2 hB (.string (txt l)) (.int .i64 er)
    have HE := hd e8
    have HU := hd (hu.trans' u8 (by intro i hi; simp at hi; omega))
    have HB := hd b8
    clear e8 u8 b8 hA hB hu
    go_wp2_with fail
    rw [HE.out]
    have hbc := HB.out.cell
    refine bodyPost_ret (v := .agg #[.string (txt l), .int .i64 er]) (by simp [results, Try.results97, go_sem, hbc]) rfl ?_
    exact ⟨rfl, HU.out⟩

set_option maxHeartbeats 2000000 in
theorem refDone_any (r : RdS) (w : World) :
    Calls Try.prog 78 #[.agg #[.string (txt r.left), .int .i64 r.err]] w fun x w' => x = .returned (.agg #[.string (txt r.done.left), .int .i64 r.done.err]) ∧ Upd [] w w' := by
  have HD := hd (show r.done = if r.left = [] then r else r.fail 4 from rfl)
  have HFA := hd (fun W => refFail_any r 4 W)
  obtain ⟨l, er⟩ := r
  simp only at HD HFA
  have e2 := two_new2 w #[.string (txt l), .int .i64 er] #[.string ⟨#[]⟩, .int .i64 0] 131 131
  by_cases h0 : l = []
  · have ht : (txt l).toList = [] := by rw [txt_list]; exact h0
    rw [HD.out, if_pos h0]
    clear h0
    go_enter Try.func78, Try.ntmps78
    go_upto_region 1 with fail
    obtain ⟨W, hW, hu, hA, hB, hsz⟩ := e2
    rw [hW]
    clear hW hsz
    have hac := hA.cell
    have hbq := hB.cell
    have hbz := hB.frozen
    obtain ⟨W2, e8, u8, b8⟩ := set2 hB (.string (txt l)) (.int .i64 er)
    have HE := hd e8
    have HU := hd (hu.trans' u8 (by intro i hi; simp at hi; omega))
    have HB := hd b8
    clear e8 u8 b8 hA hB hu
    go_wp2_with fail
    rw [HE.out]
    have hbc := HB.out.cell
    refine bodyPost_ret (v := .agg #[.string (txt l), .int .i64 er]) (by simp [results, Try.results78, go_sem, hbc]) rfl ?_
    exact ⟨rfl, HU.out⟩
  · have ht : ¬ (txt l).toList = [] := by rw [txt_list]; exact h0
    have ht' : (!(txt l).toList.isEmpty) = true := by simpa using ht
    rw [HD.out, if_neg h0]
    generalize RdS.fail ⟨l, er⟩ 4 = q at *
    obtain ⟨l2, er2⟩ := q
    clear h0
    go_enter Try.func78, Try.ntmps78
    go_upto_region 1 with fail
    obtain ⟨W, hW, hu, hA, hB, hsz⟩ := e2
    rw [hW]
    clear hW hsz
    have hac := hA.cell
    have HU := hd hu
    have HB := hd hB
    clear hu hB
    go_wp2_with fail
    refine (HFA.out W).mono ?_
    rintro x w1 ⟨rfl, hu1⟩
    have hB1 := HB.out.upd hu1 (by simp)
    have hbq := hB1.cell
    have hbz := hB1.frozen
    obtain ⟨W2, e8, u8, b8⟩ := set2 hB1 (.string (txt l2)) (.int .i64 er2)
    have HE := hd e8
    have HU2 := hd ((HU.out.trans hu1).trans' u8 (by intro i hi; simp at hi; omega))
    have HB2 := hd b8
    clear e8 u8 b8 hB1 hu1 hA
    go_wp2_with fail
    rw [HE.out]
    have hbc := HB2.out.cell
    refine bodyPost_ret (v := .agg #[.string (txt l2), .int .i64 er2]) (by simp [results, Try.results78, go_sem, hbc]) rfl ?_
    exact ⟨rfl, HU2.out⟩

set_option maxHeartbeats 4000000 in
theorem refTake_any (r : RdS) (n : Nat) (w : World) (hl : r.left.length ≤ 1099511627776) (hn : n ≤ 1099511627776) :
    Calls Try.prog 96 #[.agg #[.string (txt r.left), .int .i64 r.err], .int .i64 n] w fun x w' =>
      x = .returned (.tuple #[.agg #[.string (txt (r.take n).2.left), .int .i64 (r.take n).2.err], .string (txt (r.take n).1)]) ∧ Upd [] w w' := by
  have HT := hd (show r.take n = if r.err = 0 then (if r.left.length < n then ([], { r with err := 3 }) else (r.left.take n, ⟨r.left.drop n, 0⟩)) else ([], r) from rfl)
  obtain ⟨l, er⟩ := r
  simp only at HT hl ⊢
  have e2 := two_new2 w #[.string (txt l), .int .i64 er] #[.string ⟨#[]⟩, .int .i64 0] 131 131
  by_cases h0 : er = 0
  · have h0' : (er == 0) = true := by simpa using h0
    rw [if_pos h0] at HT
    subst h0
    by_cases hg : l.length < n
    · have hg' : (l.length : Int) < (n : Int) := by omega
      rw [HT.out, if_pos hg]
      clear h0' HT hg
      go_enter Try.func96, Try.ntmps96
      go_upto_region 1 with fail
      obtain ⟨W, hW, hu, hA, hB, hsz⟩ := e2
      rw [hW]
      clear hW hsz
      have hac := hA.cell
      have haz := hA.frozen
      have e3 : ∃ W1, W.setCell ⟨w.heap.size, 1, none⟩ (.int .i64 3) = W1 ∧ Upd [] w W1 ∧ Blk W1 w.heap.size #[.string (txt l), .int .i64 3] 131 ∧ Blk W1 (w.heap.size + 1) #[.string ⟨#[]⟩, .int .i64 0] 131 :=
        ⟨_, rfl, hu.trans' ((Upd.refl [w.heap.size] W).setCell (by simp) _) (by intro i hi; simp at hi; omega), hA.set 1 _, hB.set_other (by simp) _⟩
      go_upto_region 3 with fail
      obtain ⟨W1, hW1, hu1, hA1, hB1⟩ := e3
      rw [hW1]
      clear hW1 hac haz hA hB hu
      have hac := hA1.cell
      have hbq := hB1.cell
      have hbz := hB1.frozen
      obtain ⟨W2, e8, u8, b8⟩ := set2 hB1 (.string (txt l)) (.int .i64 3)
      have HE := hd e8
      have HU := hd (hu1.trans' u8 (by intro i hi; simp at hi; omega))
      have HB := hd b8
      clear e8 u8 b8 hA1 hB1 hu1
      go_wp2_with fail
      rw [HE.out]
      have hbc := HB.out.cell
      refine bodyPost_ret (v := .tuple #[.agg #[.string (txt l), .int .i64 3], .string ⟨#[]⟩]) (by simp [results, Try.results96, go_sem, hbc]) rfl ?_
      exact ⟨rfl, HU.out⟩
    · have hg' : ¬ (l.length : Int) < (n : Int) := by omega
      have hnl : n ≤ l.length := by omega
      have hx := txt_head l n (by omega)
      have hy := txt_tail l n
      rw [HT.out, if_neg hg]
      clear h0' HT hg
      go_enter Try.func96, Try.ntmps96
      go_upto_region 1 with fail
      obtain ⟨W, hW, hu, hA, hB, hsz⟩ := e2
      rw [hW]
      clear hW hsz
      have hac := hA.cell
      have hbq := hB.cell
      have hbz := hB.frozen
      obtain ⟨W2, e8, u8, b8⟩ := set2 hB (.string (txt (l.drop n))) (.int .i64 0)
      have HE := hd e8
      have HU := hd (hu.trans' u8 (by intro i hi; simp at hi; omega))
      have HB := hd b8
      clear e8 u8 b8 hA hB hu
      go_upto_region 5 with fail
      go_region_with fail
      all_goals
        go_wp2_with fail
        first
        | (rw [HE.out]
           have hbc := HB.out.cell
           refine bodyPost_ret (v := .tuple #[.agg #[.string (txt (l.drop n)), .int .i64 0], .string (txt (l.take n))]) (by simp [results, Try.results96, go_sem, hbc]) rfl ?_
           exact ⟨rfl, HU.out⟩)
        | (rw [HE.out]
           have hbc := HB.out.drew.cell
           refine bodyPost_ret (v := .tuple #[.agg #[.string (txt (l.drop n)), .int .i64 0], .string (txt (l.take n))]) (by simp [results, Try.results96, go_sem, hbc]) rfl ?_
           exact ⟨rfl, HU.out.drew⟩)
  · have h0' : (er == 0) = false := by simpa using h0
    have h0'' : (er != 0) = true := by simpa using h0
    rw [HT.out, if_neg h0]
    clear h0 HT
    go_enter Try.func96, Try.ntmps96
    go_upto_region 1 with fail
    obtain ⟨W, hW, hu, hA, hB, hsz⟩ := e2
    rw [hW]
    clear hW hsz
    have hac := hA.cell
    have hbq := hB.cell
    have hbz := hB.frozen
    obtain ⟨W2, e8, u8, b8⟩ := set2 hB (.string (txt l)) (.int .i64 er)
    have HE := hd e8
    have HU := hd (hu.trans' u8 (by intro i hi; simp at hi; omega))
    have HB := hd b8
    clear e8 u8 b8 hA hB hu
    go_wp2_with fail
    rw [HE.out]
    have hbc := HB.out.cell
    refine bodyPost_ret (v := .tuple #[.agg #[.string (txt l), .int .i64 er], .string ⟨#[]⟩]) (by simp [results, Try.results96, go_sem, hbc]) rfl ?_
    exact ⟨rfl, HU.out⟩
end Go.Proofs.Ytjaoiaknglnomaa

/-
  A cell on a disk that fails not and has room: what Write leaves, and Open answers. Plain laws; no program in sight.
-/
set_option linter.unusedVariables false
set_option linter.unusedSimpArgs false
namespace Go.Proofs.Ytjaoiaknglnomaa

/-- A file that has that, for sure. -/
def sureF (x : List UInt8) : FileS := ⟨txt x, txt x, false⟩
theorem set_set (d : DiskS) (i : Nat) (x y : FileS) : (d.set i x).set i y = d.set i y := by
  match i with
  | 0 => rfl
  | 1 => rfl
  | 2 => rfl
  | n + 3 => rfl
theorem get_set (d : DiskS) (i : Nat) (x : FileS) : (d.set i x).get i = x := by
  match i with
  | 0 => rfl
  | 1 => rfl
  | 2 => rfl
  | n + 3 => rfl
theorem get_set_next (d : DiskS) (i : Nat) (x y : FileS) (hi : i ≤ 2) : ((d.set i x).set (i + 1) y).get i = x := by
  rcases (by omega : i = 0 ∨ i = 1 ∨ i = 2) with rfl | rfl | rfl <;> rfl
theorem used_set (d : DiskS) (i : Nat) (x : FileS) : (d.set i x).used ≤ d.used + x.weight := by
  match i with
  | 0 => simp only [DiskS.set, DiskS.used]; omega
  | 1 => simp only [DiskS.set, DiskS.used]; omega
  | 2 => simp only [DiskS.set, DiskS.used]; omega
  | n + 3 => simp only [DiskS.set, DiskS.used]; omega
theorem weight_sure (x : List UInt8) : (sureF x).weight = x.length := by simp [FileS.weight, sureF]
theorem try_ok (d : DiskS) (f : Int) (hf : 0 ≤ f) (hf4 : f < 4) (h0 : d.fail = 0) : (tryRes d.fail f).1 = 0 ∧ d.tried f = d := by
  have e : tryRes d.fail f = (0, 0) := by unfold tryRes; rw [if_pos ⟨hf, hf4⟩, if_pos h0]
  obtain ⟨f0, f1, f2, f3, r, fl⟩ := d
  simp only at h0
  subst h0
  exact ⟨by rw [e], by unfold DiskS.tried; rw [e]⟩
theorem lay_ok (d : DiskS) (f : Int) (v : Nat) (s : List UInt8) (hf : 0 ≤ f) (hf4 : f < 4) (h0 : d.fail = 0) (hr : ((d.used + (spellL v s).length : Nat) : Int) ≤ d.room) :
    d.layIt f v s = (0, d.set f.toNat (sureF (spellL v s))) := by
  obtain ⟨t1, t2⟩ := try_ok d f hf hf4 h0
  have hfit : d.layFits f.toNat ⟨txt (spellL v s), (d.get f.toNat).sure, true⟩ = true := by
    simp only [DiskS.layFits, FileS.weight, txt_size, decide_eq_true_iff]
    omega
  have hp : d.putIt f (txt (spellL v s)) = (0, d.set f.toNat ⟨txt (spellL v s), (d.get f.toNat).sure, true⟩) := by
    unfold DiskS.putIt
    rw [if_pos t1, t2]
    unfold DiskS.laid
    rw [if_pos hfit]
  have h1 : (d.set f.toNat ⟨txt (spellL v s), (d.get f.toNat).sure, true⟩).fail = 0 := by rw [(set_rest _ _ _).2]; exact h0
  obtain ⟨u1, u2⟩ := try_ok _ f hf hf4 h1
  unfold DiskS.layIt
  rw [hp, if_pos rfl]
  simp only
  unfold DiskS.syncIt
  rw [if_pos u1, u2, get_set, set_set]
  rfl
/-- What a Write leaves. -/
def DiskS.wrote (d : DiskS) (first : Nat) (v : Nat) (s : List UInt8) : DiskS := (d.set first (sureF (spellL v s))).set (first + 1) (sureF (spellL v s))
theorem write_ok (d : DiskS) (first ver : Nat) (s : List UInt8) (hf : first ≤ 2) (hs : s.length ≤ 524288) (h0 : d.fail = 0) (hr : ((d.used + 2 * (spellL (ver + 1) s).length : Nat) : Int) ≤ d.room) :
    d.writeIt first ver s = (0, d.wrote first (ver + 1) s, ver + 1) := by
  have e1 := lay_ok d first (ver + 1) s (by omega) (by omega) h0 (by omega)
  rw [Int.toNat_natCast] at e1
  have hu := used_set d first (sureF (spellL (ver + 1) s))
  rw [weight_sure] at hu
  have hrest := set_rest d first (sureF (spellL (ver + 1) s))
  have e2 := lay_ok (d.set first (sureF (spellL (ver + 1) s))) ((first : Int) + 1) (ver + 1) s (by omega) (by omega) (by rw [hrest.2]; exact h0) (by rw [hrest.1]; omega)
  rw [show ((first : Int) + 1).toNat = first + 1 by omega] at e2
  unfold DiskS.writeIt
  rw [if_neg (by omega), e1]
  simp only
  rw [if_neg (by simp), e2]
  rfl
theorem file_get (d : DiskS) (f : Nat) (hf : f < 4) : d.file f = (d.get f).now.data.toList := by
  unfold DiskS.file DiskS.readIt
  rw [if_pos ⟨by omega, by omega⟩, Int.toNat_natCast]
theorem file_wrote (d : DiskS) (first v : Nat) (s : List UInt8) (hf : first ≤ 2) : (d.wrote first v s).file first = spellL v s ∧ (d.wrote first v s).file ((first : Int) + 1) = spellL v s := by
  constructor
  · rw [file_get _ _ (by omega)]
    unfold DiskS.wrote
    rw [get_set_next _ _ _ _ hf]
    simp [sureF, txt]
  · rw [show ((first : Int) + 1) = ((first + 1 : Nat) : Int) by omega, file_get _ _ (by omega)]
    unfold DiskS.wrote
    rw [get_set]
    simp [sureF, txt]
theorem open_wrote (d : DiskS) (first v : Nat) (s : List UInt8) (hf : first ≤ 2) (hv : v < 18446744073709551616) (hv0 : v ≠ 0) (hs : s.length ≤ 524288) :
    (d.wrote first v s).openIt first = (some v, s, 0, d.wrote first v s) := by
  obtain ⟨h1, h2⟩ := file_wrote d first v s hf
  have hp := parse_spell v s hv hv0 hs
  unfold DiskS.openIt
  rw [h1, h2, hp]
  simp only
  rw [if_neg (by simp), if_neg (by simp [hv0]), if_neg (Nat.lt_irrefl _)]
  simp [DiskS.mendIt]
theorem open_none (d : DiskS) (first : Nat) (h1 : d.file first = []) (h2 : d.file ((first : Int) + 1) = []) : d.openIt first = (some 0, [], 0, d) := by
  unfold DiskS.openIt
  rw [h1, h2]
  simp [parse_none]
end Go.Proofs.Ytjaoiaknglnomaa

/-
  The other half of numOf_wide: bytes are the wide form of their number. A plain law; no program in sight.
-/
set_option linter.unusedVariables false
set_option linter.unusedSimpArgs false
namespace Go.Proofs.Ytjaoiaknglnomaa

theorem numOf_cons (b : UInt8) (l : List UInt8) : numOf (b :: l) = b.toNat * 256 ^ l.length + numOf l := by
  have key : ∀ (l : List UInt8) (a : Nat), l.foldl (fun v b => v * 256 + b.toNat) a = a * 256 ^ l.length + numOf l := by
    intro l
    induction l with
    | nil => intro a; simp [numOf]
    | cons c r ih =>
      intro a
      have h0 : numOf (c :: r) = c.toNat * 256 ^ r.length + numOf r := by
        show r.foldl _ (0 * 256 + c.toNat) = _
        rw [ih]; simp
      rw [List.foldl_cons, ih, h0, List.length_cons, Nat.pow_succ, Nat.add_mul, Nat.mul_assoc, Nat.mul_comm 256]
      omega
  show l.foldl _ (0 * 256 + b.toNat) = _
  rw [key]; simp
theorem wideOf_mod (x : Nat) : ∀ k m, k ≤ m → wideOf (x % 256 ^ m) k = wideOf x k
  | 0, _, _ => rfl
  | k + 1, m, h => by
    have e : UInt8.ofNat (x % 256 ^ m / 256 ^ k) = UInt8.ofNat (x / 256 ^ k) := by
      apply UInt8.toNat_inj.1
      simp only [UInt8.toNat_ofNat']
      obtain ⟨d, rfl⟩ : ∃ d, m = k + 1 + d := ⟨m - (k + 1), by omega⟩
      have h1 : x % 256 ^ (k + 1 + d) / 256 ^ k = x / 256 ^ k % 256 ^ (1 + d) := by
        rw [show k + 1 + d = k + (1 + d) by omega, Nat.pow_add, Nat.mod_mul_right_div_self]
      rw [h1, Nat.pow_add, Nat.pow_one, Nat.mod_mul_right_mod]
    rw [wideOf, wideOf, e, wideOf_mod x k m (by omega)]
theorem wide_numOf : ∀ l : List UInt8, wideOf (numOf l) l.length = l
  | [] => rfl
  | b :: r => by
    have hlt := numOf_lt r
    have hp : 0 < 256 ^ r.length := Nat.pow_pos (by decide)
    have h1 : numOf (b :: r) / 256 ^ r.length = b.toNat := by
      rw [numOf_cons, Nat.mul_comm, Nat.mul_add_div hp, Nat.div_eq_of_lt hlt, Nat.add_zero]
    have h2 : numOf (b :: r) % 256 ^ r.length = numOf r := by
      rw [numOf_cons, Nat.mul_comm, Nat.mul_add_mod, Nat.mod_eq_of_lt hlt]
    rw [List.length_cons, wideOf, h1, ← wideOf_mod (numOf (b :: r)) r.length r.length (Nat.le_refl _), h2, wide_numOf r]
    simp
theorem xor_cancel {a b p : Nat} (h : a ^^^ p = b ^^^ p) : a = b := by
  have := congrArg (fun z => z ^^^ p) h
  simpa [Nat.xor_assoc] using this
theorem crcStep_inj (a b : Nat) (ha : a < 4294967296) (hb : b < 4294967296) (h : crcStep a = crcStep b) : a = b := by
  have top : ∀ x : Nat, x < 4294967296 → (x / 2).testBit 31 = false := fun x hx => Nat.testBit_lt_two_pow (by omega)
  have pt : polyN.testBit 31 = true := by decide
  unfold crcStep at h
  by_cases h1 : a % 2 = 1 <;> by_cases h2 : b % 2 = 1
  · rw [if_pos h1, if_pos h2] at h
    have := xor_cancel h
    omega
  · rw [if_pos h1, if_neg h2] at h
    have := congrArg (fun z => z.testBit 31) h
    simp [Nat.testBit_xor, top a ha, top b hb, pt] at this
  · rw [if_neg h1, if_pos h2] at h
    have := congrArg (fun z => z.testBit 31) h
    simp [Nat.testBit_xor, top a ha, top b hb, pt] at this
  · rw [if_neg h1, if_neg h2] at h
    omega
theorem crcSteps_inj (a b : Nat) (ha : a < 4294967296) (hb : b < 4294967296) : ∀ n, crcSteps a n = crcSteps b n → a = b
  | 0, h => h
  | n + 1, h => crcSteps_inj a b ha hb n (crcStep_inj _ _ (crcSteps_lt a ha n) (crcSteps_lt b hb n) h)
/-- The sum's step tells two sums, and two bytes, apart. -/
theorem moreN_inj (c d : Nat) (x y : UInt8) (hc : c < 4294967296) (hd : d < 4294967296) (h : moreN c x = moreN d y) : c ^^^ x.toNat = d ^^^ y.toNat := by
  have hx := x.toNat_lt
  have hy := y.toNat_lt
  exact crcSteps_inj _ _ (Nat.xor_lt_two_pow (n := 32) (by omega) (by omega)) (Nat.xor_lt_two_pow (n := 32) (by omega) (by omega)) 8 h
theorem fold_inj (l : List UInt8) : ∀ c d : Nat, c < 4294967296 → d < 4294967296 → l.foldl moreN c = l.foldl moreN d → c = d := by
  induction l with
  | nil => intro c d _ _ h; exact h
  | cons b r ih =>
    intro c d hc hd h
    have := ih _ _ (moreN_lt c b hc) (moreN_lt d b hd) h
    exact xor_cancel (moreN_inj c d b b hc hd this)
/-- Two stretches that differ in one byte differ in their sums. -/
theorem sumN_one (p q : List UInt8) (x y : UInt8) (h : sumN (p ++ x :: q) = sumN (p ++ y :: q)) : x = y := by
  have hc := foldMore_lt p 4294967295 (by omega)
  have h1 := foldMore_lt q _ (moreN_lt _ x hc)
  have h2 := foldMore_lt q _ (moreN_lt _ y hc)
  unfold sumN at h
  simp only [List.foldl_append, List.foldl_cons] at h
  have h3 := fold_inj q _ _ (moreN_lt _ x hc) (moreN_lt _ y hc) (by omega)
  have h4 := moreN_inj _ _ x y hc hc h3
  rw [Nat.xor_comm, Nat.xor_comm _ y.toNat] at h4
  exact UInt8.toNat_inj.1 (xor_cancel h4)
end Go.Proofs.Ytjaoiaknglnomaa
