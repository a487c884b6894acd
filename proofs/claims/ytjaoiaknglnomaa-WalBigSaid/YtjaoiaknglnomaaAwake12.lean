/-
  The fixed fact of layer 12 (chatelainelaw12.awake), walked: it holds. No condition.
-/
import Derived.Test.YtjaoiaknglnomaaRef12a
import Derived.Test.YtjaoiaknglnomaaTwin7
import Derived.Test.YtjaoiaknglnomaaDisk6
set_option linter.unusedVariables false
set_option linter.unusedSimpArgs false
set_option maxRecDepth 100000
namespace Go.Proofs.Ytjaoiaknglnomaa
open Go.RowKit

/-- A disk with nothing on it. -/
def bareD (room : Int) : DiskS := ⟨⟨⟨#[]⟩, ⟨#[]⟩, false⟩, ⟨⟨#[]⟩, ⟨#[]⟩, false⟩, ⟨⟨#[]⟩, ⟨#[]⟩, false⟩, ⟨⟨#[]⟩, ⟨#[]⟩, false⟩, room, 0⟩
theorem bare_fine (r : Int) (h1 : r ≤ 1099511627776) : (bareD r).fine := by
  have h0 : (⟨#[]⟩ : ByteArray).size = 0 := rfl
  refine ⟨⟨⟨?_, ?_⟩, ⟨?_, ?_⟩, ⟨?_, ?_⟩, ⟨?_, ?_⟩⟩, ?_, ?_, ?_⟩
  all_goals (simp only [bareD, h0]; omega)
theorem bare_open (r : Int) (f : Nat) (hf : f ≤ 2) : (bareD r).openIt f = (some 0, [], 0, bareD r) := by
  apply open_none
  · rcases (by omega : f = 0 ∨ f = 1 ∨ f = 2) with rfl | rfl | rfl <;> rfl
  · rcases (by omega : f = 0 ∨ f = 1 ∨ f = 2) with rfl | rfl | rfl <;> rfl
theorem bare_write (r : Int) (f : Nat) (hf : f ≤ 2) (s : List UInt8) (hs : s.length ≤ 524288) (hr : 2 * ((s.length : Int) + 40) ≤ r) :
    (bareD r).writeIt f 0 s = (0, (bareD r).wrote f 1 s, 1) := by
  have hu : (bareD r).used = 0 := rfl
  have h1 := uBytes_le 1
  have h2 := nBytes_le (s.length : Int)
  have hl : (spellL 1 s).length ≤ s.length + 40 := by
    simp only [spellL, frameL, bodyL, List.length_append, List.length_cons, wideOf_length]
    omega
  have := write_ok (bareD r) f 0 s hf hs rfl (by rw [hu, show (bareD r).room = r from rfl, show 0 + 1 = 1 from rfl]; omega)
  exact this
theorem wrote_fine (d : DiskS) (f v : Nat) (s : List UInt8) (h : d.fine) (hs : s.length ≤ 1000000) : (d.wrote f v s).fine := by
  have hl := spellL_len v s hs
  have hx : (sureF (spellL v s)).small := by constructor <;> (simp only [sureF, txt_size]; omega)
  exact set_fine _ _ _ (set_fine _ _ _ h hx) hx

set_option maxHeartbeats 2000000 in
theorem awake12_any (w : World) : Calls Try.prog 25 #[] w fun e w' => e = .returned (.bool true) ∧ Upd [] w w' := by
  have hrd : ((bareD 1000).wrote 1 1 [97]).readIt 2 = (txt (spellL 1 [97]), 0) := rfl
  have HRD := hd hrd
  clear hrd
  go_enter Try.func25, Try.ntmps25
  go_wp2_with fail
  refine (new_any 1000 w).mono ?_
  rintro e w1 ⟨b, rfl, hb, hu1, hd1⟩
  have hd1 : DiskAt w1 b (bareD 1000) := hd1
  have HB := hd hb
  have HU1 := hd hu1
  have HD1 := hd hd1
  clear hb hu1 hd1
  go_wp2_with fail
  refine (topen_any (bareD 1000) 1 b w1 HD1.out (bare_fine 1000 (by decide)) (by decide) (by decide)).mono ?_
  rintro e w2 ⟨ho, hu2, hd2⟩
  have hbo : (bareD 1000).openIt 1 = (some 0, [], 0, bareD 1000) := bare_open 1000 1 (by decide)
  rw [hbo] at ho hd2
  obtain ⟨kc, hkc, rfl, hc2⟩ := ho
  have HKC := hd hkc
  clear hkc
  have HU2 := hd hu2
  have HD2 := hd hd2
  have HC2 := hd hc2
  clear hu2 hd2 hc2 hbo
  have hte : (txt []).toList = [] := txt_list []
  go_wp2_with fail
  refine (cwrite_any (bareD 1000) 1 0 [97] kc b w2 HD2.out HC2.out (bare_fine 1000 (by decide)) (by decide) (by decide) (by decide) (by decide)).mono ?_
  rintro e w3 ⟨rfl, hu3, hd3, hc3⟩
  have hbw : (bareD 1000).writeIt 1 0 [97] = (0, (bareD 1000).wrote 1 1 [97], 1) := bare_write 1000 1 (by decide) [97] (by decide) (by decide)
  rw [hbw] at hd3 hc3 ⊢
  have HU3 := hd hu3
  have HD3 := hd hd3
  have HC3 := hd hc3
  clear hu3 hd3 hc3 hbw
  go_wp2_with fail
  refine (read_any ((bareD 1000).wrote 1 1 [97]) 2 w3 b HD3.out).mono ?_
  rintro e w4 ⟨rfl, hu4⟩
  rw [HRD.out]
  have HU4 := hd hu4
  clear hu4
  go_wp2_with fail
  refine (refSpell_any 1 [97] w4 (by decide) (by decide)).mono ?_
  rintro e w5 ⟨rfl, hu5⟩
  have HU5 := hd hu5
  have HC5 := hd ((HC3.out.upd HU4.out (by simp)).upd hu5 (by simp))
  clear hu5
  go_wp2_with fail
  refine (version_any kc b 1 1 w5 HC5.out).mono ?_
  rintro e w6 ⟨rfl, rfl⟩
  go_wp2_with fail
  go_ret
  have hB := HB.out
  have hK := HKC.out
  have hs1 := HU1.out.size
  refine ⟨rfl, ?_⟩
  exact HU1.out.trans' (((HU2.out.mono (by simp)).trans HU3.out).trans ((HU4.out.trans HU5.out).mono (by simp))) (by intro i hi; simp at hi; omega)
end Go.Proofs.Ytjaoiaknglnomaa
