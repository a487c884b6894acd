/-
  The law TwinLong of layer 12 (chatelainelaw12.TwinLong), walked: it answers true. No condition.
-/
import Derived.Test.YtjaoiaknglnomaaAwake12
import Derived.Laws.BytesArg
import Derived.Laws.MakeOwn
set_option linter.unusedVariables false
set_option linter.unusedSimpArgs false
set_option maxRecDepth 100000
namespace Go.Proofs.Ytjaoiaknglnomaa
open Go.RowKit

/-- So many zeros. -/
def zeros (k : Nat) : List UInt8 := List.replicate k 0
theorem zeros_len (k : Nat) : (zeros k).length = k := by simp [zeros]
theorem zeros_txt (k : Nat) : strOfNums (List.replicate k 0) = txt (zeros k) := by
  unfold strOfNums txt zeros
  rw [List.map_replicate]
  rfl
theorem make_zeros (k : Nat) (hk : k ≤ 1099511627776) (W : World) : (Instr.makeSlice 47 (.int .i64 (k : Int)) (.int .i64 (k : Int))).run Try.prog W = .ok (.slice (some ⟨W.heap.size, 0, none⟩) k k) (W.alloc (.cells (madeCells #[.int .u8 0] k) 5)) := by
  have hex : ((Try.prog.info? 5).bind fun i => i.zero.map fun z => (i.size, i.bytes, z.cells)) = some (1, 1, #[.int .u8 0]) := by kernel_rfl
  cases hi : Try.prog.info? 5 with
  | none => rw [hi] at hex; cases hex
  | some i =>
    rw [hi] at hex
    simp only [Option.bind_some] at hex
    cases hz : i.zero with
    | none => rw [hz] at hex; cases hex
    | some z =>
      rw [hz] at hex
      simp only [Option.map_some, Option.some.injEq, Prod.mk.injEq] at hex
      obtain ⟨h1, h2, h3⟩ := hex
      have := run_make (P := Try.prog) W 47 5 i z Try.underlying47 hi hz .i64 .i64 k k (by omega) (by omega) (by rw [h2]; omega) (by omega)
      rw [h1, h3, Int.toNat_natCast, Nat.mul_one] at this
      exact this
theorem zeros_at (k i : Nat) (h : i < k) : (madeCells #[.int .u8 0] k)[i]? = some (Value.int .u8 0) := by
  have hs : i < (madeCells #[.int .u8 0] k).size := by rw [size_madeCells]; exact h
  rw [Array.getElem?_eq_getElem hs]
  simp [madeCells, Nat.mod_one]

set_option maxHeartbeats 2000000 in
theorem long_law (n : Int) (w : World) : Calls Try.prog 5 #[.int .i64 n] w fun e w' => e = .returned (.bool true) ∧ Upd [] w w' := by
  go_enter Try.func5, Try.ntmps5
  go_wp2_with fail
  refine (awake12_any w).mono ?_
  rintro e w1 ⟨rfl, hu1⟩
  have HU1 := hd hu1
  clear hu1
  go_upto_region 3 with fail
  go_cut [0] from 14 to 17 (fun s0 wx => ∃ k : Nat, k ≤ 524297 ∧ s0 = .int .i64 k ∧ wx = w1)
  case first =>
    rcases (by omega : n < 0 ∨ n = 0 ∨ (0 < n ∧ n < 524297) ∨ n = 524297 ∨ 524297 < n) with h | rfl | ⟨h, h'⟩ | rfl | h
    · go_wp2_with fail
      go_meet
      exact ⟨0, by omega, rfl, rfl⟩
    · go_wp2_with fail
      go_meet
      exact ⟨0, by omega, rfl, rfl⟩
    · go_wp2_with fail
      go_meet
      exact ⟨n.toNat, by omega, congrArg _ (by omega), rfl⟩
    · go_wp2_with fail
      go_meet
      exact ⟨524297, by omega, rfl, rfl⟩
    · go_wp2_with fail
      go_meet
      exact ⟨524297, by omega, rfl, rfl⟩
  case rest =>
    obtain ⟨k, hk, rfl, rfl⟩ := hcut
    have hmk := make_zeros k (by omega) wc
    go_upto_region 5 with fail
    have HZ := hd (Blk.new wc (madeCells #[.int .u8 0] k) 5)
    have HUa := hd (HU1.out.alloc (.cells (madeCells #[.int .u8 0] k) 5))
    have hsa : wc.heap.size < (wc.alloc (.cells (madeCells #[.int .u8 0] k) 5)).heap.size := by simp
    generalize wc.alloc (.cells (madeCells #[.int .u8 0] k) 5) = w2 at *
    clear hmk
    go_wp2_with fail
    refine (new_any 4194304 w2).mono ?_
    rintro e w3 ⟨b, rfl, hb, hu3, hd3⟩
    have hd3 : DiskAt w3 b (bareD 4194304) := hd3
    have hs3 := hu3.size
    have HU3 := hd (HUa.out.trans hu3)
    have HD3 := hd hd3
    have HZ3 := hd (HZ.out.upd hu3 (by simp))
    clear hu3 hd3
    go_wp2_with fail
    refine (topen_any (bareD 4194304) 0 b w3 HD3.out (bare_fine 4194304 (by decide)) (by decide) (by decide)).mono ?_
    rintro e w4 ⟨ho, hu4, hd4⟩
    have hbo : (bareD 4194304).openIt 0 = (some 0, [], 0, bareD 4194304) := bare_open 4194304 0 (by decide)
    have HBO := hd hbo
    rw [hbo] at ho hd4
    obtain ⟨kc, hkc, rfl, hc4⟩ := ho
    have HKC := hd hkc
    have HU4 := hd (HU3.out.trans' hu4 (by intro i hi; have := HU1.out.size; simp at hi; omega))
    have HD4 := hd hd4
    have HC4 := hd hc4
    have HZ4 := hd (HZ3.out.upd hu4 (by simp; omega))
    have hne : kc ≠ b := blk_ne hc4 hd4 (by decide)
    have hs4 := hu4.size
    clear hkc hu4 hd4 hc4 hbo HU3 HD3 HZ3 HZ HUa
    have hcv : (Go.convert 47 9 (.slice (some ⟨wc.heap.size, 0, none⟩) k k)).run Try.prog w4 = .ok (.string (txt (zeros k))) w4 := by
      have := run_convert_bytes_arg (P := Try.prog) w4 47 5 Try.underlying47 Try.underlying5 wc.heap.size 0 k k (List.replicate k 0) (by simp) (fun i hi => by
        rw [Nat.zero_add, HZ4.out.cell i, zeros_at k i hi]
        simp [List.getD_eq_getElem?_getD, List.getElem?_replicate, hi]) 9 Try.underlying9
      rw [zeros_txt] at this
      exact this
    have HF := hd (bare_fine 4194304 (by decide))
    go_wp2_with fail
    refine (cwrite_any (bareD 4194304) 0 0 (zeros k) kc b w4 HD4.out HC4.out HF.out (by decide) (by decide) (by decide) (by rw [zeros_len]; omega)).mono ?_
    rintro e w5 ⟨rfl, hu5, hd5, hc5⟩
    by_cases hkk : 524288 < k
    · have hw : (bareD 4194304).writeIt 0 0 (zeros k) = (6, bareD 4194304, 0) := by unfold DiskS.writeIt; rw [if_pos (by rw [zeros_len]; exact hkk)]
      rw [hw] at hd5 hc5 ⊢
      have hkk' : (524288 : Int) < (k : Int) := by omega
      have HU5 := hd (HU4.out.trans' hu5 (by intro i hi; have := HU1.out.size; have := HKC.out; simp at hi; omega))
      have HD5 := hd hd5
      have HC5 := hd hc5
      have hs5 := hu5.size
      clear hw hu5 hd5 hc5 hcv
      go_wp2_with fail
      refine (topen_any (bareD 4194304) 0 b w5 HD5.out HF.out (by decide) (by decide)).mono ?_
      rintro e w6 ⟨ho, hu6, hd6⟩
      rw [HBO.out] at ho
      obtain ⟨kd, hkd, rfl, hc6⟩ := ho
      have HU6 := hd (HU5.out.trans' hu6 (by intro i hi; have := HU1.out.size; simp at hi; omega))
      have HC6 := hd (HC5.out.upd hu6 (by simpa using hne))
      have hte : (txt []).toList = [] := txt_list []
      clear hkd hu6 hd6 hc6
      go_wp2_with fail
      refine (version_any kc b 0 0 w6 HC6.out).mono ?_
      rintro e w7 ⟨rfl, rfl⟩
      go_wp2_with fail
      go_ret
      exact ⟨rfl, HU6.out⟩
    · have hw : (bareD 4194304).writeIt 0 0 (zeros k) = (0, (bareD 4194304).wrote 0 1 (zeros k), 1) := bare_write 4194304 0 (by decide) (zeros k) (by rw [zeros_len]; omega) (by rw [zeros_len]; omega)
      rw [hw] at hd5 hc5 ⊢
      have hkk' : ¬ (524288 : Int) < (k : Int) := by omega
      have HU5 := hd (HU4.out.trans' hu5 (by intro i hi; have := HU1.out.size; have := HKC.out; simp at hi; omega))
      have HD5 := hd hd5
      have hs5 := hu5.size
      have HF5 := hd (wrote_fine (bareD 4194304) 0 1 (zeros k) HF.out (by rw [zeros_len]; omega))
      have HO5 := hd (show ((bareD 4194304).wrote 0 1 (zeros k)).openIt 0 = (some 1, zeros k, 0, (bareD 4194304).wrote 0 1 (zeros k)) from open_wrote (bareD 4194304) 0 1 (zeros k) (by decide) (by decide) (by decide) (by rw [zeros_len]; omega))
      have hzl := zeros_len k
      generalize (bareD 4194304).wrote 0 1 (zeros k) = D5 at *
      generalize zeros k = Z at *
      clear hw hu5 hd5 hc5 hcv
      go_wp2_with fail
      refine (topen_any D5 0 b w5 HD5.out HF5.out (by decide) (by decide)).mono ?_
      rintro e w6 ⟨ho, hu6, hd6⟩
      rw [HO5.out] at ho
      obtain ⟨kd, hkd, rfl, hc6⟩ := ho
      have HU6 := hd (HU5.out.trans' hu6 (by intro i hi; have := HU1.out.size; simp at hi; omega))
      clear hkd hu6 hd6 hc6
      go_wp2_with fail
      go_ret
      exact ⟨rfl, HU6.out⟩
end Go.Proofs.Ytjaoiaknglnomaa
