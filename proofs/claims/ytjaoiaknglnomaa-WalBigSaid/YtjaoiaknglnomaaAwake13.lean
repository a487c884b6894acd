/-
  chatelainelaw13.awake, walked: it answers true. No condition.
-/
import Derived.Test.YtjaoiaknglnomaaWal14
import Derived.Test.YtjaoiaknglnomaaAwake12
set_option linter.unusedVariables false
set_option linter.unusedSimpArgs false
set_option maxRecDepth 100000
namespace Go.Proofs.Ytjaoiaknglnomaa
open Go.RowKit

theorem aw_caps : Caps 200 1000 := ⟨by decide, by decide, by decide⟩
theorem live_bare (C : Nat) (R : Int) : Live C R (bareD R) 0 0 [] 0 0 :=
  ⟨[], [], [], [], 0, 0, rfl, Int.le_refl _, (show (0 : Int) ≤ 1073741825 by decide), by simp, by simp, by simp, .inl ⟨rfl, rfl, ⟨false, parse_none⟩, rfl⟩, .inl ⟨rfl, rfl, rfl⟩, Nat.le_refl _, Nat.le_refl _, rfl, Nat.le_refl _, Nat.zero_le _, by simp [encL], torn_nil⟩
theorem aw_crash : (walAppend (walSync (walAppend (bareD 1000) (lgOf 0 0 []) [97]).2.1 (lgOf 0 0 [[97]]) 0).2.1 (lgOf 0 (encL 0 [[97]]).length [[97]]) [98]).2.1.crashIt [] = (walSync (walAppend (bareD 1000) (lgOf 0 0 []) [97]).2.1 (lgOf 0 0 [[97]]) 0).2.1 := by kernel_rfl
theorem aw_one : ∃ d1 d2 d3 v, walAppend (bareD 1000) (lgOf 0 0 []) [97] = (0, d1, lgOf 0 0 [[97]]) ∧ Live 200 1000 d1 0 0 [[97]] 0 0 ∧
    walSync d1 (lgOf 0 0 [[97]]) 0 = (0, d2, lgOf 0 (encL 0 [[97]]).length [[97]], v) ∧ v ≤ 1 ∧ Live 200 1000 d2 0 (encL 0 [[97]]).length [[97]] 1 v ∧
    walAppend d2 (lgOf 0 (encL 0 [[97]]).length [[97]]) [98] = (0, d3, lgOf 0 (encL 0 [[97]]).length [[97], [98]]) ∧ Live 200 1000 d3 0 (encL 0 [[97]]).length [[97], [98]] 1 v ∧ d3.crashIt [] = d2 := by
  obtain ⟨d1, f1, h1⟩ := append_live aw_caps (live_bare 200 1000) [97] (by decide) (by decide)
  have f0 : (bareD 1000).fail = 0 := rfl
  rcases h1 with ⟨e1, l1⟩ | ⟨hz, _⟩
  rotate_left
  · exact absurd f0 hz
  have g1 : 0 ≤ d1.fail := by obtain ⟨_, _, _, _, _, _, _, h, _⟩ := l1; exact h
  obtain ⟨d2, f2, h2⟩ := sync_live aw_caps (by decide) l1 (by decide)
  rcases h2 with ⟨v, v0, v1, e2, l2⟩ | ⟨hz, _⟩
  rotate_left
  · exact absurd (by omega) hz
  have g2 : 0 ≤ d2.fail := by obtain ⟨_, _, _, _, _, _, _, h, _⟩ := l2; exact h
  obtain ⟨d3, f3, h3⟩ := append_live aw_caps l2 [98] (by decide) (by decide)
  rcases h3 with ⟨e3, l3⟩ | ⟨hz, _⟩
  rotate_left
  · exact absurd (by omega) hz
  refine ⟨d1, d2, d3, v, e1, l1, e2, v1, l2, e3, l3, ?_⟩
  have q1 : d1 = (walAppend (bareD 1000) (lgOf 0 0 []) [97]).2.1 := by rw [e1]
  have e2' : walSync d1 (lgOf 0 0 [[97]]) 0 = (0, d2, lgOf 0 (encL 0 [[97]]).length [[97]], v) := e2
  have q2 : d2 = (walSync d1 (lgOf 0 0 [[97]]) 0).2.1 := by rw [e2']
  have e3' : walAppend d2 (lgOf 0 (encL 0 [[97]]).length [[97]]) [98] = (0, d3, lgOf 0 (encL 0 [[97]]).length [[97], [98]]) := e3
  have q3 : d3 = (walAppend d2 (lgOf 0 (encL 0 [[97]]).length [[97]]) [98]).2.1 := by rw [e3']
  rw [q3, q2, q1]
  exact aw_crash

theorem wawake_any (w : World) : Calls Try.prog 34 #[] w fun e w' => e = .returned (.bool true) ∧ Upd [] w w' := by
  obtain ⟨d1, d2, d3, v, e1, l1, e2, hv, l2, e3, l3, e4⟩ := aw_one
  have a1 : txt [97] = ⟨#[97]⟩ := rfl
  have a2 : txt [98] = ⟨#[98]⟩ := rfl
  have hl0 : ∀ t ∈ ([] : List (List UInt8)), t.length ≤ 262144 := by simp
  have hl1 : ∀ t ∈ [[(97 : UInt8)]], t.length ≤ 262144 := by decide
  have hl2 : ∀ t ∈ [[(97 : UInt8)], [98]], t.length ≤ 262144 := by decide
  have hf0 := (base_safe aw_caps hl0 (live_bare 200 1000)).1
  have hf1 := (base_safe aw_caps hl1 l1).1
  have hf2 := (base_safe aw_caps hl1 l2).1
  obtain ⟨hf3, hok3, _⟩ := base_safe aw_caps hl2 l3
  have HOP1 := hd (fun b W (h : DiskAt W b (bareD 1000)) => wopen_live aw_caps (by decide) (live_bare 200 1000) ⟨by decide, by decide, by decide, hl0⟩ (by decide) b W h)
  have HAP1 := hd (fun kl kc b W (h1 : DiskAt W b (bareD 1000)) (h2 : LogAt W kl kc b (lgOf 0 0 [])) => wappend_any (bareD 1000) (lgOf 0 0 []) [97] kl kc b W h1 h2 hf0 (by decide) (by decide) (by decide) (by decide) (by decide))
  have HSY := hd (fun kl kc b W (h1 : DiskAt W b d1) (h2 : LogAt W kl kc b (lgOf 0 0 [[97]])) (h3 : CellAt W kc b 2 0) => wsync_any d1 (lgOf 0 0 [[97]]) 0 kl kc b W h1 h2 h3 hf1 (by decide) (by decide) (by decide))
  have HAP2 := hd (fun kl kc b W (h1 : DiskAt W b d2) (h2 : LogAt W kl kc b (lgOf 0 (encL 0 [[97]]).length [[97]])) => wappend_any d2 (lgOf 0 (encL 0 [[97]]).length [[97]]) [98] kl kc b W h1 h2 hf2 (by decide) (by decide) (by rw [show (lgOf 0 (encL 0 [[97]]).length [[97]]).gen = 0 from rfl, live_now l2]; decide) (by decide) (by decide))
  have HOP2 := hd (fun b W (h : DiskAt W b d2) => wopen_live aw_caps (by decide) l2 ⟨by decide, by omega, by decide, hl1⟩ (by decide) b W h)
  rw [e1] at HAP1
  rw [e2] at HSY
  rw [e3] at HAP2
  simp only at HAP1 HSY HAP2
  rw [a1] at HAP1
  rw [a2] at HAP2
  have HCR := hd (fun b W (h : DiskAt W b d3) => crash_any d3 (.slice none 0 0) [] W b h hf3.small hok3 ⟨none, 0, rfl, by simp, by omega, by simp⟩)
  rw [e4] at HCR
  clear e1 l1 e2 l2 e3 l3 e4 hf0 hf1 hf2 hf3 hok3 hl0 hl1 hl2 hv
  go_enter Try.func34, Try.ntmps34
  go_wp2_with fail
  refine (new_any 1000 w).mono ?_
  rintro e w1 ⟨b, rfl, hb, hu1, hd1⟩
  have hd1 : DiskAt w1 b (bareD 1000) := hd1
  have HB := hd hb
  have HU1 := hd hu1
  have HD1 := hd hd1
  clear hb hu1 hd1
  go_wp2_with fail
  refine (HOP1.out b w1 HD1.out).mono ?_
  rintro e w2 ⟨⟨kl, kc, vl, rfl, hkl, hkc, hl2, hc2, hv2⟩, hu2, hd2⟩
  obtain ⟨a, cap, rfl, -⟩ := own_open hv2
  have HK := hd (And.intro hkl hkc)
  have HU2 := hd hu2
  have HD2 := hd hd2
  have HL2 := hd hl2
  have HC2 := hd hc2
  clear hkl hkc hu2 hd2 hl2 hc2 hv2
  have hlen0 : ([] : List (List UInt8)).length = 0 := rfl
  rw [hlen0]
  go_wp2_with fail
  refine (HAP1.out kl kc b w2 HD2.out HL2.out).mono ?_
  rintro e w3 ⟨rfl, hu3, hd3, hl3⟩
  have HC3 := hd (HC2.out.upd hu3 (by simp [blk_ne HC2.out HD2.out (by decide), blk_ne HC2.out HL2.out (by decide)]))
  have HU3 := hd hu3
  have HD3 := hd hd3
  have HL3 := hd hl3
  clear hu3 hd3 hl3
  go_wp2_with fail
  refine (HSY.out kl kc b w3 HD3.out HL3.out HC3.out).mono ?_
  rintro e w4 ⟨rfl, hu4, hd4, hl4, hc4⟩
  have HU4 := hd hu4
  have HD4 := hd hd4
  have HL4 := hd hl4
  clear hu4 hd4 hl4 hc4
  go_wp2_with fail
  refine (HAP2.out kl kc b w4 HD4.out HL4.out).mono ?_
  rintro e w5 ⟨rfl, hu5, hd5, hl5⟩
  have HU5 := hd hu5
  have HD5 := hd hd5
  clear hu5 hd5 hl5
  go_wp2_with fail
  refine (HCR.out b w5 HD5.out).mono ?_
  rintro e w6 ⟨rfl, hu6, hd6⟩
  have HU6 := hd hu6
  have HD6 := hd hd6
  clear hu6 hd6
  go_wp2_with fail
  refine (HOP2.out b w6 HD6.out).mono ?_
  rintro e w7 ⟨⟨kl2, kc2, vl2, rfl, hkl2, hkc2, hl7, hc7, hv7⟩, hu7, hd7⟩
  obtain ⟨g7, cap7, hge, hgB, hgl, -, hgc, hgz⟩ := own_cases hv7 (by decide)
  subst hge
  have c0 := hgc 0 (by decide)
  simp only [strVals, List.map_cons, List.map_nil, List.getElem?_cons_zero, a1] at c0
  have HU7 := hd hu7
  clear hgc hgz hv7 hl7 hc7 hkl2 hkc2 hu7 hd7
  have hlen1 : ([[97]] : List (List UInt8)).length = 1 := rfl
  rw [hlen1]
  go_wp2_with fail
  go_ret
  have hB := HB.out
  have hK := HK.out
  have hs1 := HU1.out.size
  refine ⟨rfl, ?_⟩
  have h7 : Upd [b, kl, kc] w1 w7 := (((((HU2.out.mono (by simp)).trans (HU3.out.mono (by simp))).trans HU4.out).trans (HU5.out.mono (by simp))).trans (HU6.out.mono (by simp))).trans (HU7.out.mono (by simp))
  exact HU1.out.trans' h7 (by intro i hi; simp only [List.mem_cons, List.not_mem_nil, or_false, false_or] at hi ⊢; omega)
end Go.Proofs.Ytjaoiaknglnomaa
