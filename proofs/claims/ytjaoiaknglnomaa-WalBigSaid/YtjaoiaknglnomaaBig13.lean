/-
  The law WalBig of layer 13, walked: it answers true. No condition.
-/
import Derived.Test.YtjaoiaknglnomaaAwake13
import Derived.Test.YtjaoiaknglnomaaLong12
set_option linter.unusedVariables false
set_option linter.unusedSimpArgs false
set_option maxRecDepth 100000
namespace Go.Proofs.Ytjaoiaknglnomaa
open Go.RowKit

theorem big_caps : Caps 270000 1048576 := ⟨by decide, by decide, by decide⟩
theorem base_fail {C : Nat} {R : Int} {d : DiskS} {g n : Nat} {L : List (List UInt8)} {J : List UInt8} {k v : Nat} (h : Base C R d g n L J k v) : 0 ≤ d.fail := by
  obtain ⟨_, _, _, _, _, _, _, h, _⟩ := h; exact h

set_option maxHeartbeats 4000000 in
theorem big_law (n : Int) (w : World) : Calls Try.prog 10 #[.int .i64 n] w fun e w' => e = .returned (.bool true) ∧ Upd [] w w' := by
  go_enter Try.func10, Try.ntmps10
  go_wp2_with fail
  refine (wawake_any w).mono ?_
  rintro e w1 ⟨rfl, hu1⟩
  have HU1 := hd hu1
  clear hu1
  go_upto_region 3 with fail
  go_cut [0] from 14 to 16 (fun s0 wx => ∃ k : Nat, k ≤ 262153 ∧ s0 = .int .i64 k ∧ wx = w1)
  case first =>
    rcases (by omega : n < 0 ∨ n = 0 ∨ (0 < n ∧ n < 262153) ∨ n = 262153 ∨ 262153 < n) with h | rfl | ⟨h, h'⟩ | rfl | h
    · go_wp2_with fail
      go_meet
      exact ⟨0, by omega, rfl, rfl⟩
    · go_wp2_with fail
      go_meet
      exact ⟨0, by omega, rfl, rfl⟩
    · go_wp2_with fail
      go_meet
      exact ⟨n.toNat, by omega, congrArg _ (by omega), rfl⟩
    · go_wp2_with fail
      go_meet
      exact ⟨262153, by omega, rfl, rfl⟩
    · go_wp2_with fail
      go_meet
      exact ⟨262153, by omega, rfl, rfl⟩
  case rest =>
    obtain ⟨k, hk, rfl, rfl⟩ := hcut
    go_wp2_with fail
    refine (new_any 1048576 wc).mono ?_
    rintro e w3 ⟨b, rfl, hb, hu3, hd3⟩
    have hd3 : DiskAt w3 b (bareD 1048576) := hd3
    have hs0 := HU1.out.size
    have HU3 := hd (HU1.out.trans hu3)
    have HD3 := hd hd3
    have hs3 := hu3.size
    clear hu3 hd3
    have hl0 : ∀ t ∈ ([] : List (List UInt8)), t.length ≤ 262144 := by simp
    have HLV := hd (live_bare 270000 1048576)
    have HF := hd (base_safe big_caps hl0 (live_bare 270000 1048576)).1
    go_wp2_with fail
    refine (wopen_live big_caps (by decide) HLV.out ⟨by decide, by decide, by decide, hl0⟩ (by decide) b w3 HD3.out).mono ?_
    rintro e w4 ⟨⟨kl, kc, vl, rfl, hkl, hkc, hl4, hc4, hv4⟩, hu4, hd4⟩
    obtain ⟨a, cap, rfl, -⟩ := own_open hv4
    have HU4 := hd (HU3.out.trans' hu4 (by intro i hi; simp at hi; omega))
    have HD4 := hd hd4
    have HL4 := hd hl4
    have HC4 := hd hc4
    have hs4 := hu4.size
    clear hu4 hd4 hl4 hc4 hv4
    have hmk := make_zeros k (by omega) w4
    have hcv : (Go.convert 47 9 (.slice (some ⟨w4.heap.size, 0, none⟩) k k)).run Try.prog (w4.alloc (.cells (madeCells #[.int .u8 0] k) 5)) = .ok (.string (txt (zeros k))) (w4.alloc (.cells (madeCells #[.int .u8 0] k) 5)) := by
      have HZ := Blk.new w4 (madeCells #[.int .u8 0] k) 5
      have := run_convert_bytes_arg (P := Try.prog) (w4.alloc (.cells (madeCells #[.int .u8 0] k) 5)) 47 5 Try.underlying47 Try.underlying5 w4.heap.size 0 k k (List.replicate k 0) (by simp) (fun i hi => by
        rw [Nat.zero_add, HZ.cell i, zeros_at k i hi]
        simp [List.getD_eq_getElem?_getD, List.getElem?_replicate, hi]) 9 Try.underlying9
      rw [zeros_txt] at this
      exact this
    have hu5 : Upd [] w4 (w4.alloc (.cells (madeCells #[.int .u8 0] k) 5)) := (Upd.refl _ _).alloc _
    have HU5 := hd (HU4.out.trans hu5)
    have HD5 := hd (HD4.out.upd hu5 (by simp))
    have HL5 := hd (HL4.out.upd hu5 (by simp))
    have HC5 := hd (HC4.out.upd hu5 (by simp))
    have hs5 := hu5.size
    have hwc := HU5.out.size
    generalize hW5 : w4.alloc (.cells (madeCells #[.int .u8 0] k) 5) = w5 at *
    clear hu5 HU4 HD4 HL4 HC4
    have hne2 : kc ≠ b := blk_ne HC5.out HD5.out (by decide)
    have hne3 : kc ≠ kl := blk_ne HC5.out HL5.out (by decide)
    have HK := hd (And.intro hb (And.intro hkl hkc))
    by_cases hkk : 262144 < k
    · have hkk' : (262144 : Int) < (k : Int) := by omega
      have HAP := hd (wappend_any (bareD 1048576) (lgOf 0 0 []) (zeros k) kl kc b w5 HD5.out HL5.out HF.out (by decide) (by rw [zeros_len]; omega) (by decide) (by decide) (by decide))
      have e1 : walAppend (bareD 1048576) (lgOf 0 0 []) (zeros k) = (6, bareD 1048576, lgOf 0 0 []) := if_pos (by rw [zeros_len]; exact hkk)
      rw [e1] at HAP
      simp only at HAP
      clear e1
      go_wp2_with fail
      refine HAP.out.mono ?_
      rintro e w6 ⟨rfl, hu6, hd6, hl6⟩
      have HU6 := hd (HU5.out.trans' hu6 (by intro i hi; simp at hi; omega))
      have HC6 := hd (HC5.out.upd hu6 (by simp [hne2, hne3]))
      have HD6 := hd hd6
      have HL6 := hd hl6
      have hs6 := hu6.size
      clear hu6 hd6 hl6 hcv HAP hmk
      go_wp2_with fail
      refine (wsync_live big_caps (by decide) HLV.out ⟨by decide, by decide, by decide, hl0⟩ kl kc b w6 HD6.out HL6.out HC6.out).mono ?_
      rintro e w7 ⟨d7, hf7, hu7, hd7, hr7⟩
      rcases hr7 with ⟨rfl, v7, _, hv7, _, _, hlv7⟩ | ⟨hz, _⟩
      rotate_left
      · exact absurd rfl hz
      have HU7 := hd (HU6.out.trans' hu7 (by intro i hi; simp at hi; omega))
      have HD7 := hd hd7
      have HL7 := hd hlv7
      have hs7 := hu7.size
      have hv7' := hd hv7
      clear hu7 hd7 hlv7 hf7 hv7
      go_wp2_with fail
      refine (wopen_live big_caps (by decide) HL7.out ⟨by decide, by have := hv7'.out; omega, by decide, hl0⟩ (by decide) b w7 HD7.out).mono ?_
      rintro e w8 ⟨⟨kl2, kc2, vl2, rfl, hkl2, hkc2, hl8, hc8, hv8⟩, hu8, hd8⟩
      obtain ⟨a8, cap8, rfl, -⟩ := own_open hv8
      have HU8 := hd (HU7.out.trans' hu8 (by intro i hi; simp at hi; omega))
      have hlen0 : ([] : List (List UInt8)).length = 0 := rfl
      rw [hlen0]
      clear hl8 hc8 hv8 hu8 hd8
      go_wp2_with fail
      go_ret
      exact ⟨rfl, HU8.out⟩
    · have hkk' : ¬ (262144 : Int) < (k : Int) := by omega
      have hl1 : ∀ t ∈ [zeros k], t.length ≤ 262144 := by intro t ht; simp at ht; subst ht; rw [zeros_len]; omega
      have hE : ∀ g, (encL g [zeros k]).length ≤ 270000 := fun g => by
        have h1 := spell_len g (zeros k)
        have h2 := in_len g (zeros k) (by rw [zeros_len]; omega)
        have h3 : encL g [zeros k] = spellL g (zeros k) := by simp [encL]
        rw [h3]; omega
      go_wp2_with fail
      refine (wappend_live big_caps (by decide) HLV.out ⟨by decide, by decide, by decide, hl0⟩ (zeros k) (by rw [zeros_len]; omega) (hE 0) kl kc b w5 HD5.out HL5.out HC5.out).mono ?_
      rintro e w6 ⟨d6, hf6, hu6, hd6, hc6, hr6⟩
      rcases hr6 with ⟨rfl, hl6, hlv6⟩ | ⟨hz, _⟩
      rotate_left
      · exact absurd rfl hz
      have hf6' : d6.fail = 0 := by have h1 := base_fail hlv6; have h2 : d6.fail ≤ 0 := hf6; omega
      have HU6 := hd (HU5.out.trans' hu6 (by intro i hi; simp at hi; omega))
      have HC6 := hd hc6
      have HD6 := hd hd6
      have HL6 := hd hl6
      have HLV6 := hd hlv6
      have hs6 := hu6.size
      clear hu6 hd6 hl6 hc6 hcv hf6 hlv6 hmk
      rw [List.nil_append] at HL6 HLV6
      go_wp2_with fail
      refine (wsync_live big_caps (by decide) HLV6.out ⟨by decide, by decide, by simp, hl1⟩ kl kc b w6 HD6.out HL6.out HC6.out).mono ?_
      rintro e w7 ⟨d7, hf7, hu7, hd7, hr7⟩
      rcases hr7 with ⟨rfl, v7, _, hv7, _, _, hlv7⟩ | ⟨hz, _⟩
      rotate_left
      · exact absurd hf6' hz
      have HU7 := hd (HU6.out.trans' hu7 (by intro i hi; simp at hi; omega))
      have HD7 := hd hd7
      have HL7 := hd hlv7
      have hs7 := hu7.size
      have hv7' := hd hv7
      clear hu7 hd7 hlv7 hf7 hv7
      go_wp2_with fail
      refine (wopen_live big_caps (by decide) HL7.out ⟨by decide, by have := hv7'.out; omega, by simp, hl1⟩ (by have := hE (0 + 1); omega) b w7 HD7.out).mono ?_
      rintro e w8 ⟨⟨kl2, kc2, vl2, rfl, hkl2, hkc2, hl8, hc8, hv8⟩, hu8, hd8⟩
      obtain ⟨g8, cap8, hge, hgB, hgl, -, hgc, hgz⟩ := own_cases hv8 (by simp)
      subst hge
      have c0 := hgc 0 (by simp)
      simp only [strVals, List.map_cons, List.map_nil, List.getElem?_cons_zero] at c0
      have HU8 := hd (HU7.out.trans' hu8 (by intro i hi; simp at hi; omega))
      have hzl := zeros_len k
      have hlen1 : [zeros k].length = 1 := rfl
      rw [hlen1]
      clear hl8 hc8 hv8 hu8 hd8 hgc hgz hkl2 hkc2
      go_wp2_with fail
      go_ret
      exact ⟨rfl, HU8.out⟩
end Go.Proofs.Ytjaoiaknglnomaa
