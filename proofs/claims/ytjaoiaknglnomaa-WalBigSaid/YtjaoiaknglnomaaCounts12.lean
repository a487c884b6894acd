/-
  The law TwinCounts of layer 12 (chatelainelaw12.TwinCounts), walked: it answers true. Condition: the two lists read as lists.
-/
import Derived.Test.YtjaoiaknglnomaaCut12
set_option linter.unusedVariables false
set_option linter.unusedSimpArgs false
set_option maxRecDepth 100000
namespace Go.Proofs.Ytjaoiaknglnomaa
open Go.RowKit

/-- A list of texts that came in; its cells lie below block B. -/
def StrsAt (B : Nat) (w : World) (v : Value) (n : Nat) (f : Nat → List UInt8) : Prop :=
  ∃ (a : Option Addr) (c : Nat), v = .slice a n c ∧ n ≤ c ∧ c ≤ 9223372036854775807 ∧ (0 < n → ∃ k o, a = some ⟨k, o, none⟩ ∧ k < B ∧ ∀ i, i < n → w.cell? ⟨k, o + i, none⟩ = some (.string (txt (f i))) ∧ (f i).length ≤ 9223372036854775807)
def BoolsAt (B : Nat) (w : World) (v : Value) (n : Nat) (g : Nat → Bool) : Prop :=
  ∃ (a : Option Addr) (c : Nat), v = .slice a n c ∧ n ≤ c ∧ c ≤ 9223372036854775807 ∧ (0 < n → ∃ k o, a = some ⟨k, o, none⟩ ∧ k < B ∧ ∀ i, i < n → w.cell? ⟨k, o + i, none⟩ = some (.bool (g i)))

/-- What the loop keeps of the disk. -/
structure Cozy (D : DiskS) : Prop where
  calm : D.calm
  fine : D.fine
  room : D.room = 10000
  used : D.f0.weight = 0 ∧ D.f3.weight = 0 ∧ D.f1.weight ≤ 110 ∧ D.f2.weight ≤ 110
theorem bare_cozy : Cozy (bareD 10000) := ⟨bare_calm _, bare_fine _ (by decide), rfl, by decide, by decide, by decide, by decide⟩
theorem spellL_short (v : Nat) (s : List UInt8) (hs : s.length ≤ 40) : (spellL v s).length ≤ 110 := by
  have h1 := uBytes_le v
  have h2 := nBytes_le (s.length : Int)
  simp only [spellL, frameL, bodyL, List.length_append, List.length_cons, wideOf_length]
  omega
theorem wrote_cozy (D : DiskS) (v : Nat) (s : List UInt8) (h : Cozy D) (hs : s.length ≤ 40) : Cozy (D.wrote 1 v s) := by
  have hl := spellL_short v s hs
  refine ⟨wrote_calm _ _ _ _ h.calm, wrote_fine _ _ _ _ h.fine (by omega), h.room, h.used.1, h.used.2.1, ?_, ?_⟩
  · show (sureF (spellL v s)).weight ≤ 110
    rw [weight_sure]; exact hl
  · show (sureF (spellL v s)).weight ≤ 110
    rw [weight_sure]; exact hl
theorem cozy_write (D : DiskS) (ver : Nat) (s : List UInt8) (h : Cozy D) (hs : s.length ≤ 40) : D.writeIt 1 ver s = (0, D.wrote 1 (ver + 1) s, ver + 1) := by
  have hl := spellL_short (ver + 1) s hs
  obtain ⟨u0, u3, u1, u2⟩ := h.used
  have hu : D.used ≤ 220 := by unfold DiskS.used; omega
  exact write_ok D 1 ver s (by decide) (by omega) h.calm.1 (by rw [h.room]; omega)

theorem calm_ok (D : DiskS) (h : D.calm) : D.ok := fun i _ => by rw [(h.2 i).1]; exact Nat.le_refl _
set_option maxHeartbeats 4000000 in
theorem counts_law (v1 v2 : Value) (n1 n2 : Nat) (f : Nat → List UInt8) (g : Nat → Bool) (w : World) (h1 : StrsAt w.heap.size w v1 n1 f) (h2 : BoolsAt w.heap.size w v2 n2 g) :
    Calls Try.prog 8 #[v1, v2] w fun e w' => e = .returned (.bool true) ∧ Upd [] w w' := by
  obtain ⟨a1, c1, rfl, hc1, hm1, he1⟩ := h1
  obtain ⟨a2, c2, rfl, hc2, hm2, he2⟩ := h2
  have HE1 := hd he1
  have HE2 := hd he2
  clear he1 he2
  go_enter Try.func8, Try.ntmps8
  go_wp2_with fail
  refine (awake12_any w).mono ?_
  rintro e w1 ⟨rfl, hu1⟩
  have HU1 := hd hu1
  clear hu1
  go_wp2_with fail
  refine (new_any 10000 w1).mono ?_
  rintro e w2 ⟨b, rfl, hb, hu2, hd2⟩
  have hd2 : DiskAt w2 b (bareD 10000) := hd2
  have HB := hd (Nat.le_trans HU1.out.size hb)
  have HU2 := hd (HU1.out.trans hu2)
  have HD2 := hd hd2
  clear hb hu2 hd2
  go_wp2_with fail
  refine (topen_any (bareD 10000) 1 b w2 HD2.out bare_cozy.fine (by decide) (by decide)).mono ?_
  rintro e w3 ⟨ho, hu3, hd3⟩
  have hbo : (bareD 10000).openIt 1 = (some 0, [], 0, bareD 10000) := bare_open 10000 1 (by decide)
  rw [hbo] at ho hd3
  obtain ⟨kc, hkc, rfl, hc3⟩ := ho
  have HKC := hd (Nat.le_trans HU2.out.size hkc)
  have HU3 := hd (HU2.out.trans' hu3 (by intro i hi; have := HB.out; simp at hi; omega))
  have HD3 := hd hd3
  have HC3 := hd hc3
  clear hkc hu3 hd3 hc3 hbo HU1 HU2 HD2
  go_wp2_with fail
  go_loopw [6, 9] (fun c i wr => ∃ (j : Nat) (D : DiskS) (k : Nat), j ≤ 12 ∧ i = .int .i64 j ∧ c = .pointer (some ⟨k, 0, none⟩) ∧ w.heap.size ≤ k ∧ Upd [] w wr ∧ DiskAt wr b D ∧ CellAt wr k b 1 j ∧ Cozy D) (fun _ i _ => 12 - (intOf i).toNat)
  case atStart => exact ⟨0, bareD 10000, kc, by omega, rfl, rfl, HKC.out, HU3.out, HD3.out, HC3.out, bare_cozy⟩
  case round =>
    obtain ⟨j, D, k, hj, rfl, rfl, hk, hu, hD, hC, hZ⟩ := hrel
    have HU := hd hu
    have HD := hd hD
    have HC := hd hC
    have HZ := hd hZ
    have HK := hd hk
    by_cases hn : j < n1
    · have hn' : (j : Int) < (n1 : Int) := by omega
      obtain ⟨k1, o1, rfl, hk1, hel⟩ := HE1.out (by omega)
      obtain ⟨hcell, hlen⟩ := hel j hn
      have hcw : wr.cell? ⟨k1, o1 + j, none⟩ = some (.string (txt (f j))) := (World.cell?_of_block (hu.block k1 hk1 (by simp))).trans hcell
      have hne : k ≠ b := blk_ne hC hD (by decide)
      clear hu hD hC hZ hel hcell hk
      by_cases h12 : j < 12
      · have h12' : (j : Int) < 12 := by omega
        have hw64 : IntKind.u64.wrap ((j : Int) + 1) = (j : Int) + 1 := by rw [IntKind.wrap_u64]; omega
        have hvv : (((j + 1 : Nat) : Int) != (j : Int) + 1) = false := by simp
        have hvw : ((j : Int) + 1 != (j : Int) + 1) = false := by simp
        have HS := hd (show ((f j).take 40).length ≤ 40 by rw [List.length_take]; omega)
        go_wp2_with fail
        refine (cut_any (f j) 40 wr hlen (by decide)).mono ?_
        rintro e w4 ⟨rfl, rfl⟩
        generalize (f j).take 40 = S at *
        have HWR := hd (cozy_write D j S HZ.out HS.out)
        have HZ2 := hd (wrote_cozy D (j + 1) S HZ.out HS.out)
        have HOW := hd (show (D.wrote 1 (j + 1) S).openIt 1 = (some (j + 1), S, 0, D.wrote 1 (j + 1) S) from open_wrote D 1 (j + 1) S (by decide) (by omega) (by omega) (by have := HS.out; omega))
        go_wp2_with fail
        refine (cwrite_any D 1 j S k b wr HD.out HC.out HZ.out.fine (by decide) (by decide) (by omega) (by have := HS.out; omega)).mono ?_
        rintro e w5 ⟨rfl, hu5, hd5, hc5⟩
        rw [HWR.out] at hd5 hc5 ⊢
        generalize D.wrote 1 (j + 1) S = D2 at *
        have HU5 := hd (HU.out.trans' hu5 (by intro i hi; have := HB.out; have := HK.out; simp at hi; omega))
        have HD5 := hd hd5
        have HC5 := hd hc5
        clear hu5 hd5 hc5
        go_wp2_with fail
        refine (version_any k b 1 (j + 1) w5 HC5.out).mono ?_
        rintro e w6 ⟨rfl, rfl⟩
        by_cases hm : j < n2
        · have hm' : (j : Int) < (n2 : Int) := by omega
          obtain ⟨k2, o2, rfl, hk2, hel2⟩ := HE2.out (by omega)
          have hcw2 : w5.cell? ⟨k2, o2 + j, none⟩ = some (.bool (g j)) := (World.cell?_of_block (HU5.out.block k2 hk2 (by simp))).trans (hel2 j hm)
          clear hel2
          rcases hg : g j with _ | _
          · rw [hg] at hcw2
            go_wp2_with fail
            go_roundw
            case rel => exact ⟨j + 1, D2, k, by omega, by go_num, rfl, HK.out, HU5.out, HD5.out, HC5.out, HZ2.out⟩
            case measure => simp [intOf]; omega
          · rw [hg] at hcw2
            go_wp2_with fail
            refine (crash_any D2 _ [] w5 b HD5.out HZ2.out.fine.small (calm_ok _ HZ2.out.calm) ⟨none, 0, rfl, by simp, by omega, by simp⟩).mono ?_
            rintro e w7 ⟨rfl, hu7, hd7⟩
            rw [crash_calm _ _ HZ2.out.calm] at hd7
            have HU7 := hd (HU5.out.trans' hu7 (by intro i hi; have := HB.out; simp at hi; omega))
            have HD7 := hd hd7
            clear hu7 hd7
            go_wp2_with fail
            refine (topen_any D2 1 b w7 HD7.out HZ2.out.fine (by decide) (by decide)).mono ?_
            rintro e w8 ⟨ho, hu8, hd8⟩
            rw [HOW.out] at ho hd8
            obtain ⟨kd, hkd, rfl, hc8⟩ := ho
            have HKD := hd (Nat.le_trans HU7.out.size hkd)
            have HU8 := hd (HU7.out.trans' hu8 (by intro i hi; have := HB.out; simp at hi; omega))
            have HD8 := hd hd8
            have HC8 := hd hc8
            clear hkd hu8 hd8 hc8
            go_wp2_with fail
            refine (version_any kd b 1 (j + 1) w8 HC8.out).mono ?_
            rintro e w9 ⟨rfl, rfl⟩
            go_wp2_with fail
            go_roundw
            case rel => exact ⟨j + 1, D2, kd, by omega, by go_num, rfl, HKD.out, HU8.out, HD8.out, HC8.out, HZ2.out⟩
            case measure => simp [intOf]; omega
        · have hm' : ¬ (j : Int) < (n2 : Int) := by omega
          go_wp2_with fail
          go_roundw
          case rel => exact ⟨j + 1, D2, k, by omega, by go_num, rfl, HK.out, HU5.out, HD5.out, HC5.out, HZ2.out⟩
          case measure => simp [intOf]; omega
      · obtain rfl : j = 12 := by omega
        go_wp2_with fail
        go_ret
        exact ⟨rfl, HU.out⟩
    · have hn' : ¬ (j : Int) < (n1 : Int) := by omega
      clear hu hD hC hZ hk
      go_wp2_with fail
      go_ret
      exact ⟨rfl, HU.out⟩
end Go.Proofs.Ytjaoiaknglnomaa
