/-
  code.Reader, walked: U, N, S. Conditions: those that each theorem states.
-/
import Derived.Test.YtjaoiaknglnomaaWm1
import Derived.Deep.Cut
import Derived.Deep.CutRange
import Derived.Deep.CutBlock
set_option linter.unusedVariables false
set_option linter.unusedSimpArgs false
set_option maxRecDepth 100000
namespace Go.Proofs.Ytjaoiaknglnomaa
open Go.RowKit

/-- Bytes as a number, the highest first. -/
def numOf (l : List UInt8) : Nat := l.foldl (fun v b => v * 256 + b.toNat) 0
theorem numOf_snoc (l : List UInt8) (b : UInt8) : numOf (l ++ [b]) = numOf l * 256 + b.toNat := by simp [numOf]
theorem numOf_lt (l : List UInt8) : numOf l < 256 ^ l.length := by
  have key : ∀ (l : List UInt8) (a : Nat), l.foldl (fun v b => v * 256 + b.toNat) a < (a + 1) * 256 ^ l.length := by
    intro l
    induction l with
    | nil => intro a; simp
    | cons b r ih =>
      intro a
      have h := ih (a * 256 + b.toNat)
      have hb : b.toNat < 256 := b.toNat_lt
      rw [List.foldl_cons, List.length_cons, Nat.pow_succ]
      refine Nat.lt_of_lt_of_le h ?_
      rw [Nat.mul_comm (256 ^ r.length) 256, ← Nat.mul_assoc]
      exact Nat.mul_le_mul_right _ (by omega)
  have := key l 0
  simpa [numOf] using this
theorem u64_shl_or (v b : Nat) (hv : v * 256 < 18446744073709551616) (hb : b < 256) : bits .or .u64 ((v : Int) * 256) (b : Int) = ((v * 256 + b : Nat) : Int) := by
  have h1 : (BitVec.ofInt 64 ((v : Int) * 256) ||| BitVec.ofInt 64 (b : Int)).toNat = v * 256 + b := by
    rw [BitVec.toNat_or, BitVec.toNat_ofInt, BitVec.toNat_ofInt]
    have e1 : (((v : Int) * 256) % ((2 ^ 64 : Nat) : Int)).toNat = v * 256 := by omega
    have e2 : ((b : Int) % ((2 ^ 64 : Nat) : Int)).toNat = b := by omega
    rw [e1, e2]
    have h := Nat.shiftLeft_add_eq_or_of_lt (a := v) (show b < 2 ^ 8 by omega)
    rw [Nat.shiftLeft_eq] at h
    exact h.symm
  show IntKind.u64.wrap ((BitVec.ofInt 64 ((v : Int) * 256) ||| BitVec.ofInt 64 (b : Int)).toNat : Nat) = _
  rw [h1, IntKind.wrap_u64]
  omega

/-- How many bytes follow a first byte from 252 on. -/
def moreOf (c : UInt8) : Nat := if c = 252 then 2 else if c = 253 then 4 else 8
def RdS.U (r : RdS) : Nat × RdS :=
  match (r.take 1).1 with
  | [] => (0, (r.take 1).2)
  | c :: _ =>
    if c.toNat < 252 then (c.toNat, (r.take 1).2)
    else
      let r2 := if c = 255 then (r.take 1).2.fail 4 else (r.take 1).2
      let t := r2.take (moreOf c)
      let r4 := if (headOf (numOf t.1)).1 = c then t.2 else t.2.fail 4
      (if r4.err = 0 then numOf t.1 else 0, r4)

theorem take_le (r : RdS) (n : Nat) : (r.take n).1.length ≤ n ∧ (r.take n).2.left.length ≤ r.left.length := by
  unfold RdS.take
  (repeat' split) <;> simp <;> omega
theorem fail_left (r : RdS) (e : Int) : (r.fail e).left = r.left := by unfold RdS.fail; split <;> rfl

set_option maxHeartbeats 4000000 in
theorem U_rd (r : RdS) (k : Nat) (w : World) (h : RdAt w k r) (hl : r.left.length ≤ 1099511627776) :
    Calls Try.prog 80 #[.pointer (some ⟨k, 0, none⟩)] w fun x w' => x = .returned (.int .u64 (r.U.1 : Int)) ∧ Upd [k] w w' ∧ RdAt w' k r.U.2 := by
  have HT := hd (take_rd r 1 k w h hl (by omega))
  have hlt := h.lt
  obtain ⟨hn1, hl1⟩ := take_le r 1
  clear h
  cases hs : (r.take 1).1 with
  | nil =>
    have HU := hd (show r.U = (0, (r.take 1).2) by unfold RdS.U; rw [hs])
    rw [hs] at HT
    generalize (r.take 1).2 = r1 at *
    have ht : (txt []).toList = [] := txt_list []
    clear hs
    go_enter Try.func80, Try.ntmps80
    go_wp2_with fail
    refine HT.out.mono ?_
    rintro x w1 ⟨rfl, hu1, h1⟩
    go_wp2_with fail
    go_ret
    rw [HU.out]
    exact ⟨rfl, hu1, h1⟩
  | cons c s =>
    obtain rfl : s = [] := by
      rw [hs] at hn1
      simp at hn1
      exact hn1
    have ht : ¬ (txt [c]).toList = [] := by rw [txt_list]; simp
    have ht' : (!(txt [c]).toList.isEmpty) = true := by rw [txt_list]; rfl
    have hcs : (txt [c]).size = 1 := by simp
    have hcz : 0 < (txt [c]).size := by simp
    have hci : (txt [c])[0]'hcz = c := rfl
    have hte : (txt [c]).toList.isEmpty = false := by rw [txt_list]; rfl
    have hc256 : c.toNat < 256 := c.toNat_lt
    by_cases h252 : c.toNat < 252
    · have HU := hd (show r.U = (c.toNat, (r.take 1).2) by unfold RdS.U; rw [hs]; simp only; rw [if_pos h252])
      rw [hs] at HT
      generalize (r.take 1).2 = r1 at *
      clear hs
      go_enter Try.func80, Try.ntmps80
      go_wp2_with fail
      refine HT.out.mono ?_
      rintro x w1 ⟨rfl, hu1, h1⟩
      go_wp2_with fail
      go_ret
      rw [HU.out]
      exact ⟨rfl, hu1, h1⟩
    · have hc4 : c = 252 ∨ c = 253 ∨ c = 254 ∨ c = 255 := by
        have : c.toNat = 252 ∨ c.toNat = 253 ∨ c.toNat = 254 ∨ c.toNat = 255 := by omega
        rcases this with h | h | h | h
        · exact .inl (UInt8.toNat_inj.1 h)
        · exact .inr (.inl (UInt8.toNat_inj.1 h))
        · exact .inr (.inr (.inl (UInt8.toNat_inj.1 h)))
        · exact .inr (.inr (.inr (UInt8.toNat_inj.1 h)))
      obtain ⟨r2, hr2⟩ : ∃ r2, r2 = (if c = 255 then (r.take 1).2.fail 4 else (r.take 1).2) := ⟨_, rfl⟩
      have HU := hd (show r.U = (if (if (headOf (numOf (r2.take (moreOf c)).1)).1 = c then (r2.take (moreOf c)).2 else (r2.take (moreOf c)).2.fail 4).err = 0 then numOf (r2.take (moreOf c)).1 else 0, if (headOf (numOf (r2.take (moreOf c)).1)).1 = c then (r2.take (moreOf c)).2 else (r2.take (moreOf c)).2.fail 4) by
        unfold RdS.U; rw [hs]; simp only; rw [if_neg h252, ← hr2])
      rw [hs] at HT
      have hl2 : r2.left.length ≤ 1099511627776 := by rw [hr2]; split <;> (try rw [fail_left]) <;> omega
      have hmo : moreOf c ≤ 8 ∧ (moreOf c = 2 ∧ c = 252 ∨ moreOf c = 4 ∧ c = 253 ∨ moreOf c = 8 ∧ c = 254 ∨ moreOf c = 8 ∧ c = 255) := by
        rcases hc4 with rfl | rfl | rfl | rfl <;> decide
      have HT2 := hd (fun W (h : RdAt W k r2) => take_rd r2 (moreOf c) k W h hl2 (by omega))
      obtain ⟨ht1, ht2⟩ := take_le r2 (moreOf c)
      have HFL := hd (fun W (h : RdAt W k (r.take 1).2) => fail_rd (r.take 1).2 4 k W h)
      have HR2 := hd hr2
      generalize (r.take 1).2 = r1 at *
      generalize r2.take (moreOf c) = T at *
      obtain ⟨t, r3⟩ := T
      simp only at ht1 ht2 HU HT2
      have h252i : ¬ (c.toNat : Int) < 252 := by omega
      have hcn : c.toNat = 252 ∨ c.toNat = 253 ∨ c.toNat = 254 ∨ c.toNat = 255 := by omega
      have HC4 := hd hc4
      clear hs hr2 hn1 hc4
      go_enter Try.func80, Try.ntmps80
      go_wp2_with fail
      refine HT.out.mono ?_
      rintro x w1 ⟨rfl, hu1, h1⟩
      go_upto_block 0 with fail
      go_cut [4] from 22 to 29 (fun s4 wx => s4 = .int .i64 (moreOf c : Nat) ∧ RdAt wx k r2 ∧ Upd [k] w wx)
      case' first =>
        rcases hcn with hcv | hcv | hcv | hcv
        case' inl =>
          have b1 : ((c.toNat : Int) == 252) = true := by simp [hcv]
          have b2 : ((c.toNat : Int) == 253) = false := by simp [hcv]
          have b3 : ((c.toNat : Int) == 255) = false := by simp [hcv]
          have HC := hd (show c = 252 from UInt8.toNat_inj.1 hcv)
          have HM := hd (show moreOf c = 2 by rw [HC.out]; rfl)
          have HR := hd (show r2 = r1 by rw [HR2.out, HC.out]; rfl)
          clear hcv
          go_wp2_with fail
          go_meet
          case rel => rw [HM.out, HR.out]; exact ⟨rfl, h1, hu1⟩
        case' inr.inl =>
          have b1 : ((c.toNat : Int) == 252) = false := by simp [hcv]
          have b2 : ((c.toNat : Int) == 253) = true := by simp [hcv]
          have b3 : ((c.toNat : Int) == 255) = false := by simp [hcv]
          have HC := hd (show c = 253 from UInt8.toNat_inj.1 hcv)
          have HM := hd (show moreOf c = 4 by rw [HC.out]; rfl)
          have HR := hd (show r2 = r1 by rw [HR2.out, HC.out]; rfl)
          clear hcv
          go_wp2_with fail
          go_meet
          case rel => rw [HM.out, HR.out]; exact ⟨rfl, h1, hu1⟩
        case' inr.inr.inl =>
          have b1 : ((c.toNat : Int) == 252) = false := by simp [hcv]
          have b2 : ((c.toNat : Int) == 253) = false := by simp [hcv]
          have b3 : ((c.toNat : Int) == 255) = false := by simp [hcv]
          have HC := hd (show c = 254 from UInt8.toNat_inj.1 hcv)
          have HM := hd (show moreOf c = 8 by rw [HC.out]; rfl)
          have HR := hd (show r2 = r1 by rw [HR2.out, HC.out]; rfl)
          clear hcv
          go_wp2_with fail
          go_meet
          case rel => rw [HM.out, HR.out]; exact ⟨rfl, h1, hu1⟩
        case' inr.inr.inr =>
          have b1 : ((c.toNat : Int) == 252) = false := by simp [hcv]
          have b2 : ((c.toNat : Int) == 253) = false := by simp [hcv]
          have b3 : ((c.toNat : Int) == 255) = true := by simp [hcv]
          have HC := hd (show c = 255 from UInt8.toNat_inj.1 hcv)
          have HM := hd (show moreOf c = 8 by rw [HC.out]; rfl)
          have HR := hd (show r2 = r1.fail 4 by rw [HR2.out, HC.out]; rfl)
          clear hcv
          go_wp2_with fail
          refine (HFL.out w1 h1).mono ?_
          rintro x w2 ⟨rfl, hu2, h2⟩
          go_wp2_with fail
          go_meet
          case rel => rw [HM.out, HR.out]; exact ⟨rfl, h2, hu1.trans hu2⟩
      case rest =>
        obtain ⟨rfl, h2, hu2⟩ := hcut
        clear HT HFL HR2 h1 hu1 hcn
        have HU2 := hd hu2
        have H2 := hd h2
        clear h2 hu2
        have hmo8 : moreOf c ≤ 8 := hmo.1
        clear hmo
        generalize moreOf c = n at *
        go_wp2_with fail
        refine (HT2.out wc H2.out).mono ?_
        rintro x w3 ⟨rfl, hu3, h3⟩
        have HU3 := hd (HU2.out.trans hu3)
        have H3 := hd h3
        clear hu3 h3 HT2 H2 HU2
        go_wp2_with (refine wpList_conv_bytes rfl 9 47 5 (.tmp 32) rfl (txt t) rfl Try.underlying9 Try.underlying47 Try.underlying5 ?_)
        intro kb cb w4 hkb hkb2 hcb hu4 hb4 _
        have HU4 := hd (HU3.out.trans (hu4.mono (by simp)))
        have H4 := hd (H3.out.upd hu4 (by simp))
        have HB4 := hd hb4
        have hnk : kb ≠ k := by have := H3.out.lt; omega
        clear hu4 hb4 HU3 H3 hcb
        have ht8 : t.length ≤ 8 := by omega
        go_wp2_with fail
        go_loop [5, 35] (fun v i => ∃ j : Nat, j ≤ t.length ∧ i = .int .i64 j ∧ v = .int .u64 ((numOf (t.take j) : Nat) : Int)) (fun _ i => t.length - (intOf i).toNat)
        case atStart => exact ⟨0, Nat.zero_le _, rfl, rfl⟩
        case round =>
          obtain ⟨j, hj, rfl, rfl⟩ := hrel
          by_cases hjt : j < t.length
          · have hjt' : (j : Int) < (t.length : Int) := by omega
            have hcell : w4.cell? ⟨kb, j, none⟩ = some (.int .u8 ((t[j]).toNat : Int)) := by
              have := HB4.out j (by simpa using hjt)
              rw [Nat.zero_add] at this
              rw [this]
              simp [txt, List.getD, List.getElem?_eq_getElem hjt]
            have HN := hd (show numOf (t.take (j + 1)) = numOf (t.take j) * 256 + (t[j]).toNat by rw [List.take_succ_eq_append_getElem hjt, numOf_snoc])
            have hlt7 : numOf (t.take j) < 256 ^ 7 := Nat.lt_of_lt_of_le (numOf_lt _) (Nat.pow_le_pow_right (by omega) (by rw [List.length_take]; omega))
            generalize numOf (t.take j) = V at *
            have hb8 : (t[j]).toNat < 256 := (t[j]).toNat_lt
            generalize (t[j]).toNat = b at *
            have hV : V < 72057594037927936 := by simpa using hlt7
            clear hlt7
            have hor := u64_shl_or V b (by omega) hb8
            go_wp2_with fail
            go_round
            case rel => exact ⟨j + 1, by omega, by go_num, by rw [HN.out]; exact congrArg _ (by omega)⟩
            case measure => simp [intOf]; omega
          · obtain rfl : j = t.length := by omega
            rw [List.take_length]
            have HHD := hd (fun W => head_any (numOf t) W (Nat.lt_of_lt_of_le (numOf_lt t) (Nat.le_trans (Nat.pow_le_pow_right (by omega) ht8) (by decide))))
            have HF3 := hd (fun W (h : RdAt W k r3) => fail_rd r3 4 k W h)
            generalize numOf t = V at *
            go_wp2_with fail
            refine (HHD.out w4).mono ?_
            rintro x w5 ⟨rfl, rfl⟩
            have h4c := H4.out.cell
            have hh256 : (headOf V).1.toNat < 256 := (headOf V).1.toNat_lt
            by_cases hh : (headOf V).1 = c
            · have hhb : (((headOf V).1.toNat : Int) != (c.toNat : Int)) = false := by rw [hh]; simp
              have HH := hd hh
              clear hh
              by_cases h0 : r3.err = 0
              · have h0b : (r3.err != 0) = false := by simpa using h0
                have H0 := hd h0
                clear h0
                go_wp2_with fail
                go_ret
                rw [HU.out, if_pos HH.out, if_pos H0.out]
                exact ⟨rfl, HU4.out, H4.out⟩
              · have h0b : (r3.err != 0) = true := by simpa using h0
                have H0 := hd h0
                clear h0
                go_wp2_with fail
                go_ret
                rw [HU.out, if_pos HH.out, if_neg H0.out]
                exact ⟨rfl, HU4.out, H4.out⟩
            · have hhb : (((headOf V).1.toNat : Int) != (c.toNat : Int)) = true := by
                simp only [bne_iff_ne, ne_eq]
                intro e
                exact hh (UInt8.toNat_inj.1 (by omega))
              have HH := hd hh
              clear hh
              go_wp2_with fail
              refine (HF3.out _ H4.out).mono ?_
              rintro x w6 ⟨rfl, hu6, h6⟩
              have h6c := h6.cell
              have HU6 := hd (HU4.out.trans hu6)
              have H6 := hd h6
              clear hu6 h6 h4c
              generalize r3.fail 4 = r4 at *
              by_cases h0 : r4.err = 0
              · have h0b : (r4.err != 0) = false := by simpa using h0
                have H0 := hd h0
                clear h0
                go_wp2_with fail
                go_ret
                rw [HU.out, if_neg HH.out, if_pos H0.out]
                exact ⟨rfl, HU6.out, H6.out⟩
              · have h0b : (r4.err != 0) = true := by simpa using h0
                have H0 := hd h0
                clear h0
                go_wp2_with fail
                go_ret
                rw [HU.out, if_neg HH.out, if_neg H0.out]
                exact ⟨rfl, HU6.out, H6.out⟩

def RdS.N (r : RdS) (most : Int) : Int × RdS := if most < (r.U.1 : Int) then (0, r.U.2.fail 6) else ((r.U.1 : Int), r.U.2)
theorem U_lt (r : RdS) : r.U.1 < 18446744073709551616 := by
  unfold RdS.U
  split
  · simp
  · rename_i c _ _
    have hc : c.toNat < 256 := c.toNat_lt
    split
    · simp only; omega
    · simp only
      generalize (if c = 255 then (r.take 1).2.fail 4 else (r.take 1).2) = r2
      generalize (if (headOf (numOf (r2.take (moreOf c)).1)).1 = c then (r2.take (moreOf c)).2 else (r2.take (moreOf c)).2.fail 4) = r4
      split
      · have hm : moreOf c ≤ 8 := by unfold moreOf; (repeat' split) <;> omega
        have h1 := (take_le r2 (moreOf c)).1
        exact Nat.lt_of_lt_of_le (numOf_lt _) (Nat.le_trans (Nat.pow_le_pow_right (by omega) (show _ ≤ 8 by omega)) (by decide))
      · omega
theorem U_left (r : RdS) : r.U.2.left.length ≤ r.left.length := by
  have h1 := (take_le r 1).2
  unfold RdS.U
  split
  · exact h1
  · rename_i c _ _
    split
    · exact h1
    · simp only
      have h3 : (if c = 255 then (r.take 1).2.fail 4 else (r.take 1).2).left.length ≤ r.left.length := by split <;> (try rw [fail_left]) <;> exact h1
      generalize (if c = 255 then (r.take 1).2.fail 4 else (r.take 1).2) = r2 at *
      have h2 := (take_le r2 (moreOf c)).2
      split <;> (try rw [fail_left]) <;> omega
theorem N_rd (r : RdS) (most : Int) (k : Nat) (w : World) (h : RdAt w k r) (hl : r.left.length ≤ 1099511627776) (hm0 : 0 ≤ most) (hm : most ≤ 1099511627776) :
    Calls Try.prog 81 #[.pointer (some ⟨k, 0, none⟩), .int .i64 most] w fun x w' => x = .returned (.int .i64 (r.N most).1) ∧ Upd [k] w w' ∧ RdAt w' k (r.N most).2 := by
  have HU := hd (U_rd r k w h hl)
  have HN := hd (show r.N most = if most < (r.U.1 : Int) then (0, r.U.2.fail 6) else ((r.U.1 : Int), r.U.2) from rfl)
  have hu := U_lt r
  have HF := hd (fun W (h : RdAt W k r.U.2) => fail_rd r.U.2 6 k W h)
  generalize r.U = T at *
  obtain ⟨v, r1⟩ := T
  simp only at HU HN hu HF
  have hw1 : IntKind.u64.wrap most = most := by rw [IntKind.wrap_u64]; omega
  clear h
  by_cases hg : most < (v : Int)
  · have HG := hd hg
    go_enter Try.func81, Try.ntmps81
    go_wp2_with fail
    refine HU.out.mono ?_
    rintro x w1 ⟨rfl, hu1, h1⟩
    go_wp2_with fail
    refine (HF.out w1 h1).mono ?_
    rintro x w2 ⟨rfl, hu2, h2⟩
    go_wp2_with fail
    go_ret
    rw [HN.out, if_pos HG.out]
    exact ⟨rfl, hu1.trans hu2, h2⟩
  · have HG := hd hg
    have hv : v ≤ 1099511627776 := by omega
    have hw2 : IntKind.i64.wrap (v : Int) = v := by rw [IntKind.wrap_i64]; omega
    go_enter Try.func81, Try.ntmps81
    go_wp2_with fail
    refine HU.out.mono ?_
    rintro x w1 ⟨rfl, hu1, h1⟩
    go_wp2_with fail
    go_ret
    rw [HN.out, if_neg (by have := HG.out; omega)]
    exact ⟨rfl, hu1, h1⟩
theorem N_range (r : RdS) (most : Int) (hm0 : 0 ≤ most) (hm : most ≤ 1099511627776) : 0 ≤ (r.N most).1 ∧ (r.N most).1 ≤ 1099511627776 := by
  unfold RdS.N
  split
  · simp
  · simp only; omega
theorem N_left (r : RdS) (most : Int) : (r.N most).2.left.length ≤ r.left.length := by
  have := U_left r
  unfold RdS.N
  split
  · rw [fail_left]; exact this
  · exact this
def RdS.S (r : RdS) (most : Int) : List UInt8 × RdS := (r.N most).2.take (r.N most).1.toNat
theorem S_rd (r : RdS) (most : Int) (k : Nat) (w : World) (h : RdAt w k r) (hl : r.left.length ≤ 1099511627776) (hm0 : 0 ≤ most) (hm : most ≤ 1099511627776) :
    Calls Try.prog 84 #[.pointer (some ⟨k, 0, none⟩), .int .i64 most] w fun x w' => x = .returned (.string (txt (r.S most).1)) ∧ Upd [k] w w' ∧ RdAt w' k (r.S most).2 := by
  have HN := hd (N_rd r most k w h hl hm0 hm)
  obtain ⟨hn0, hn1⟩ := N_range r most hm0 hm
  have hnl := N_left r most
  have HT := hd (fun W (h : RdAt W k (r.N most).2) => take_rd (r.N most).2 (r.N most).1.toNat k W h (by omega) (by omega))
  have HS := hd (show r.S most = (r.N most).2.take (r.N most).1.toNat from rfl)
  generalize r.N most = T at *
  obtain ⟨v, r1⟩ := T
  simp only at HN HT HS hn0 hn1
  rw [show ((v.toNat : Nat) : Int) = v by omega] at HT
  clear h
  go_enter Try.func84, Try.ntmps84
  go_wp2_with fail
  refine HN.out.mono ?_
  rintro x w1 ⟨rfl, hu1, h1⟩
  go_wp2_with fail
  refine (HT.out w1 h1).mono ?_
  rintro x w2 ⟨rfl, hu2, h2⟩
  go_wp2_with fail
  go_ret
  rw [HS.out]
  exact ⟨rfl, hu1.trans hu2, h2⟩
end Go.Proofs.Ytjaoiaknglnomaa

/-
  seal: more, Sum, number, walked. Conditions: those that each theorem states.
-/
set_option linter.unusedVariables false
set_option linter.unusedSimpArgs false
set_option maxRecDepth 100000
namespace Go.Proofs.Ytjaoiaknglnomaa
open Go.RowKit

/-- One bit of a sum. -/
def polyN : Nat := 3988292384
def crcStep (c : Nat) : Nat := if c % 2 = 1 then (c / 2) ^^^ polyN else c / 2
def crcSteps (c : Nat) : Nat → Nat
  | 0 => c
  | n + 1 => crcStep (crcSteps c n)
def moreN (c : Nat) (b : UInt8) : Nat := crcSteps (c ^^^ b.toNat) 8
/-- The sum of bytes. -/
def sumN (l : List UInt8) : Nat := 4294967295 - l.foldl moreN 4294967295

theorem crcStep_lt (c : Nat) (h : c < 4294967296) : crcStep c < 4294967296 := by
  unfold crcStep
  split
  · exact Nat.xor_lt_two_pow (n := 32) (by omega) (by unfold polyN; omega)
  · omega
theorem crcSteps_lt (c : Nat) (h : c < 4294967296) : ∀ n, crcSteps c n < 4294967296
  | 0 => h
  | n + 1 => crcStep_lt _ (crcSteps_lt c h n)
theorem moreN_lt (c : Nat) (b : UInt8) (h : c < 4294967296) : moreN c b < 4294967296 :=
  crcSteps_lt _ (Nat.xor_lt_two_pow (n := 32) (by omega) (by have := b.toNat_lt; omega)) 8
theorem foldMore_lt (l : List UInt8) (c : Nat) (h : c < 4294967296) : l.foldl moreN c < 4294967296 := by
  induction l generalizing c with
  | nil => exact h
  | cons b r ih => exact ih _ (moreN_lt c b h)

theorem u32_xor (a b : Nat) (ha : a < 4294967296) (hb : b < 4294967296) : bits .xor .u32 (a : Int) (b : Int) = ((a ^^^ b : Nat) : Int) := by
  have h1 : (BitVec.ofInt 32 (a : Int) ^^^ BitVec.ofInt 32 (b : Int)).toNat = a ^^^ b := by
    rw [BitVec.toNat_xor, BitVec.toNat_ofInt, BitVec.toNat_ofInt]
    have e1 : ((a : Int) % ((2 ^ 32 : Nat) : Int)).toNat = a := by omega
    have e2 : ((b : Int) % ((2 ^ 32 : Nat) : Int)).toNat = b := by omega
    rw [e1, e2]
  show IntKind.u32.wrap ((BitVec.ofInt 32 (a : Int) ^^^ BitVec.ofInt 32 (b : Int)).toNat : Nat) = _
  have h2 : a ^^^ b < 4294967296 := Nat.xor_lt_two_pow (n := 32) (by omega) (by omega)
  rw [h1, IntKind.wrap_u32]
  omega
theorem u32_and1 (a : Nat) (ha : a < 4294967296) : bits .and .u32 (a : Int) 1 = ((a % 2 : Nat) : Int) := by
  have h1 : (BitVec.ofInt 32 (a : Int) &&& BitVec.ofInt 32 1).toNat = a % 2 := by
    rw [BitVec.toNat_and, BitVec.toNat_ofInt]
    have e1 : ((a : Int) % ((2 ^ 32 : Nat) : Int)).toNat = a := by omega
    rw [e1, show (BitVec.ofInt 32 1).toNat = 2 ^ 1 - 1 by decide, Nat.and_two_pow_sub_one_eq_mod]
  show IntKind.u32.wrap ((BitVec.ofInt 32 (a : Int) &&& BitVec.ofInt 32 1).toNat : Nat) = _
  rw [h1, IntKind.wrap_u32]
  omega
theorem u32_shl_or (v b : Nat) (hv : v * 256 < 4294967296) (hb : b < 256) : bits .or .u32 ((v : Int) * 256) (b : Int) = ((v * 256 + b : Nat) : Int) := by
  have h1 : (BitVec.ofInt 32 ((v : Int) * 256) ||| BitVec.ofInt 32 (b : Int)).toNat = v * 256 + b := by
    rw [BitVec.toNat_or, BitVec.toNat_ofInt, BitVec.toNat_ofInt]
    have e1 : (((v : Int) * 256) % ((2 ^ 32 : Nat) : Int)).toNat = v * 256 := by omega
    have e2 : ((b : Int) % ((2 ^ 32 : Nat) : Int)).toNat = b := by omega
    rw [e1, e2]
    have h := Nat.shiftLeft_add_eq_or_of_lt (a := v) (show b < 2 ^ 8 by omega)
    rw [Nat.shiftLeft_eq] at h
    exact h.symm
  show IntKind.u32.wrap ((BitVec.ofInt 32 ((v : Int) * 256) ||| BitVec.ofInt 32 (b : Int)).toNat : Nat) = _
  rw [h1, IntKind.wrap_u32]
  omega

theorem more_any (c : Nat) (b : UInt8) (w : World) (hc : c < 4294967296) :
    Calls Try.prog 108 #[.int .u32 c, .int .u8 (b.toNat : Int)] w fun x w' => x = .returned (.int .u32 (moreN c b : Nat)) ∧ w = w' := by
  have hb : b.toNat < 256 := b.toNat_lt
  have hx := u32_xor c b.toNat hc (by omega)
  have hxl : c ^^^ b.toNat < 4294967296 := Nat.xor_lt_two_pow (n := 32) (by omega) (by omega)
  have HM := hd (show moreN c b = crcSteps (c ^^^ b.toNat) 8 from rfl)
  generalize b.toNat = n at *
  generalize c ^^^ n = d at *
  go_enter Try.func108, Try.ntmps108
  go_wp2_with fail
  go_loop [0, 10] (fun v i => ∃ j : Nat, j ≤ 8 ∧ i = .int .i64 j ∧ v = .int .u32 (crcSteps d j : Nat)) (fun _ i => 8 - (intOf i).toNat)
  case atStart => exact ⟨0, by omega, rfl, by first | rfl | (simp [crcSteps]; done)⟩
  case round =>
    obtain ⟨j, hj, rfl, rfl⟩ := hrel
    have hlt := crcSteps_lt d hxl j
    by_cases hj8 : j < 8
    · have HS := hd (show crcSteps d (j + 1) = crcStep (crcSteps d j) from rfl)
      generalize crcSteps d j = q at *
      have ha := u32_and1 q hlt
      by_cases hq : q % 2 = 1
      · have hq' : (q : Int) % 2 = 1 := by omega
        have hp : bits .xor .u32 ((q : Int) / 2) 3988292384 = (((q / 2) ^^^ polyN : Nat) : Int) := by
          have := u32_xor (q / 2) polyN (by omega) (by unfold polyN; omega)
          rw [← this]
          rfl
        have HC := hd (show crcStep q = (q / 2) ^^^ polyN by unfold crcStep; rw [if_pos hq])
        go_wp2_with fail
        go_round
        case rel => exact ⟨j + 1, by omega, by go_num, by rw [HS.out, HC.out]⟩
        case measure => simp [intOf]; omega
      · have hq' : (q : Int) % 2 = 0 := by omega
        have HC := hd (show crcStep q = q / 2 by unfold crcStep; rw [if_neg hq])
        go_wp2_with fail
        go_round
        case rel => exact ⟨j + 1, by omega, by go_num, by rw [HS.out, HC.out]; exact congrArg _ (by omega)⟩
        case measure => simp [intOf]; omega
    · obtain rfl : j = 8 := by omega
      go_wp2_with fail
      go_ret
      rw [HM.out]
      exact ⟨rfl, rfl⟩

theorem u32_not (C : Nat) (h : C < 4294967296) : bits .xor .u32 IntKind.u32.max (C : Int) = ((4294967295 - C : Nat) : Int) := by
  have e : IntKind.u32.max = ((4294967295 : Nat) : Int) := by decide
  rw [e, u32_xor _ _ (by omega) h]
  have h1 : (BitVec.allOnes 32 ^^^ BitVec.ofNat 32 C).toNat = 4294967295 - C := by
    rw [BitVec.allOnes_xor, BitVec.toNat_not, BitVec.toNat_ofNat]
    omega
  rw [BitVec.toNat_xor, BitVec.toNat_allOnes, BitVec.toNat_ofNat, Nat.mod_eq_of_lt (by omega)] at h1
  rw [← h1]
theorem txt_at (l : List UInt8) (j : Nat) (h : j < l.length) (h' : j < (txt l).size) : (txt l)[j]'h' = l[j] := by
  show (txt l).data[j]'_ = _
  first | (simp [txt]; done) | (simp [txt]; rfl)

theorem sum_any (l : List UInt8) (ka : Nat) (w : World) (ha : Blk w ka #[.string (txt l)] 9) (hl : l.length ≤ 1099511627776) :
    Calls Try.prog 104 #[.slice (some ⟨ka, 0, none⟩) 1 1] w fun x w' => x = .returned (.int .u32 (sumN l : Nat)) ∧ w = w' := by
  have hc := ha.cell
  have HS := hd (show sumN l = 4294967295 - l.foldl moreN 4294967295 from rfl)
  clear ha
  go_enter Try.func104, Try.ntmps104
  go_wp2_with fail
  go_loop [3, 9] (fun v i => (i = .int .i64 0 ∧ v = .int .u32 4294967295) ∨ (i = .int .i64 1 ∧ v = .int .u32 (l.foldl moreN 4294967295 : Nat))) (fun _ i => 1 - (intOf i).toNat)
  case atStart => exact .inl ⟨rfl, rfl⟩
  case round =>
    rcases hrel with ⟨rfl, rfl⟩ | ⟨rfl, rfl⟩
    · go_wp2_with fail
      go_loop [3, 15] (fun v i => ∃ j : Nat, j ≤ l.length ∧ i = .int .i64 j ∧ v = .int .u32 ((l.take j).foldl moreN 4294967295 : Nat)) (fun _ i => l.length - (intOf i).toNat)
      case atStart => exact ⟨0, Nat.zero_le _, rfl, rfl⟩
      case round =>
        obtain ⟨j, hj, rfl, rfl⟩ := hrel
        by_cases hjl : j < l.length
        · have hjl' : (j : Int) < (l.length : Int) := by omega
          have hsz : j < (txt l).size := by simpa using hjl
          have hat := txt_at l j hjl hsz
          have HN := hd (show (l.take (j + 1)).foldl moreN 4294967295 = moreN ((l.take j).foldl moreN 4294967295) l[j] by rw [List.take_succ_eq_append_getElem hjl, List.foldl_append]; rfl)
          have HML := hd (foldMore_lt (l.take j) 4294967295 (by omega))
          generalize (l.take j).foldl moreN 4294967295 = C at *
          go_wp2_with ((with_reducible refine (more_any _ _ _ HML.out).mono ?_); rintro x w' ⟨rfl, rfl⟩)
          go_round
          case rel => exact ⟨j + 1, by omega, by go_num, by rw [HN.out]⟩
          case measure => simp [intOf]; omega
        · obtain rfl : j = l.length := by omega
          rw [List.take_length]
          go_wp2_with fail
          go_round
          case rel => exact .inr ⟨rfl, rfl⟩
          case measure => simp [intOf]
    · have HML := hd (foldMore_lt l 4294967295 (by omega))
      generalize l.foldl moreN 4294967295 = C at *
      go_wp2_with fail
      have hn := u32_not C HML.out
      go_ret
      rw [HS.out]
      exact ⟨congrArg (fun z => Ending.returned (Value.int .u32 z)) hn, rfl⟩

theorem number_any (l : List UInt8) (w : World) (hl : l.length ≤ 4) :
    Calls Try.prog 106 #[.string (txt l)] w fun x w' => x = .returned (.int .u32 (numOf l : Nat)) ∧ w = w' := by
  go_enter Try.func106, Try.ntmps106
  go_wp2_with fail
  go_loop [3, 7] (fun v i => ∃ j : Nat, j ≤ l.length ∧ i = .int .i64 j ∧ v = .int .u32 (numOf (l.take j) : Nat)) (fun _ i => l.length - (intOf i).toNat)
  case atStart => exact ⟨0, Nat.zero_le _, rfl, rfl⟩
  case round =>
    obtain ⟨j, hj, rfl, rfl⟩ := hrel
    by_cases hjl : j < l.length
    · have hjl' : (j : Int) < (l.length : Int) := by omega
      have hsz : j < (txt l).size := by simpa using hjl
      have hat := txt_at l j hjl hsz
      have HN := hd (show numOf (l.take (j + 1)) = numOf (l.take j) * 256 + (l[j]).toNat by rw [List.take_succ_eq_append_getElem hjl, numOf_snoc]; rfl)
      have hlt3 : numOf (l.take j) < 256 ^ 3 := Nat.lt_of_lt_of_le (numOf_lt _) (Nat.pow_le_pow_right (by omega) (by rw [List.length_take]; omega))
      generalize numOf (l.take j) = V at *
      have hb8 : (l[j]).toNat < 256 := (l[j]).toNat_lt
      generalize l[j] = b at *
      have hV : V < 16777216 := by simpa using hlt3
      clear hlt3
      have hor := u32_shl_or V b.toNat (by omega) hb8
      go_wp2_with fail
      go_round
      case rel => exact ⟨j + 1, by omega, by go_num, by rw [HN.out]; exact congrArg _ (by omega)⟩
      case measure => simp [intOf]; omega
    · obtain rfl : j = l.length := by omega
      rw [List.take_length]
      go_wp2_with fail
      go_ret
      exact ⟨rfl, rfl⟩
end Go.Proofs.Ytjaoiaknglnomaa
