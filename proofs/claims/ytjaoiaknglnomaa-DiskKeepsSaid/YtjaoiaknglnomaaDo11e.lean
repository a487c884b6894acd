/-
  The statements' own 'do' of layer 11 (chatelainelaw11.do), walked, its kind 5: Spoil. Conditions: disks whose texts are of at most 2^30 bytes.
-/
import Derived.Test.YtjaoiaknglnomaaDo11d
set_option linter.unusedVariables false
set_option maxRecDepth 100000
set_option linter.unusedSimpArgs false
namespace Go.Proofs.Ytjaoiaknglnomaa
open Go.RowKit

/-- A disk is as it was, or one of its files, which it had for sure, has another byte. -/
def Spoils (D D' : DiskS) : Prop := D' = D ∨ ∃ i z, i < 4 ∧ D' = D.set i ⟨z, z, false⟩ ∧ z.size = (D.get i).now.size

theorem spoil_nat (d : DiskS) (f : Nat) (at_ : Nat) (n : Nat) (w : World) (b : Nat) (hd : DiskAt w b d) (hs : d.small) (hf : f < 4) (hsafe : (d.get f).safe = true) (hat : at_ < (d.get f).now.size) (hn : n < 256) :
    Calls Try.prog 33 #[.pointer (some ⟨b, 0, none⟩), .int .i64 f, .int .i64 at_, .int .u8 n] w fun e w' =>
      e = .returned (.bool true) ∧ Upd [b] w w' ∧ ∃ z, z.size = (d.get f).now.size ∧ DiskAt w' b (d.set f ⟨z, z, false⟩) := by
  have h := spoil_yes d f at_ (UInt8.ofNat n) w b hd hs hf hsafe hat
  rw [show ((UInt8.ofNat n).toNat : Int) = n by simp; omega] at h
  exact h.mono fun e w' ⟨h1, h2, h3⟩ => ⟨h1, h2, _, spoilt_size _ _ _, h3⟩

/-- Spoil, whatever comes in. -/
theorem spoil_any (d : DiskS) (f at_ : Int) (n : Nat) (w : World) (b : Nat) (hd : DiskAt w b d) (hs : d.small) (hn : n < 256) :
    Calls Try.prog 33 #[.pointer (some ⟨b, 0, none⟩), .int .i64 f, .int .i64 at_, .int .u8 n] w fun e w' =>
      ∃ is d', e = .returned (.bool is) ∧ Upd [b] w w' ∧ Spoils d d' ∧ DiskAt w' b d' := by
  by_cases h : d.sureIt f = true ∧ 0 ≤ at_ ∧ at_ < ((d.get f.toNat).now.size : Int)
  · obtain ⟨h1, h2, h3⟩ := h
    have hf : 0 ≤ f ∧ f < 4 := by
      by_cases hf : 0 ≤ f ∧ f < 4
      · exact hf
      · simp [DiskS.sureIt, hf] at h1
    obtain ⟨i, rfl⟩ : ∃ i : Nat, f = i := ⟨f.toNat, by omega⟩
    obtain ⟨j, rfl⟩ : ∃ j : Nat, at_ = j := ⟨at_.toNat, by omega⟩
    have h1' : (d.get i).safe = true := by simpa [DiskS.sureIt, hf, FileS.safe] using h1
    refine (spoil_nat d i j n w b hd hs (by omega) h1' (by simpa using h3) hn).mono ?_
    rintro e w' ⟨rfl, hu, z, hz, hd'⟩
    exact ⟨_, _, rfl, hu, .inr ⟨i, z, by omega, rfl, hz⟩, hd'⟩
  · refine (spoil_no d f at_ n w b hd hs ?_).mono ?_
    · by_cases h1 : d.sureIt f = true
      · by_cases h2 : 0 ≤ at_
        · exact .inr (.inr (by
            rcases Int.lt_or_le at_ ((d.get f.toNat).now.size : Int) with h3 | h3
            · exact absurd ⟨h1, h2, h3⟩ h
            · exact h3))
        · exact .inr (.inl (by omega))
      · exact .inl (by simpa using h1)
    · rintro e w' ⟨rfl, hu⟩
      exact ⟨_, _, rfl, hu.mono (by simp), .inl rfl, hd.upd hu (by simp)⟩

set_option maxHeartbeats 2000000 in
theorem do5 (D x : DiskS) (l v : Value) (F N : Int) (s : ByteArray) (w : World) (b B : Nat) (hD : DiskAt w b D) (hx : RefAt B w l x) (hDf : D.fine) (hxs : x.small) (hB : B ≤ w.heap.size) (hbB : ∀ g, l.ownBlock = some g → g ≠ b) (hs : s.size ≤ 9223372036854775807) :
    Calls Try.prog 17 #[.pointer (some ⟨b, 0, none⟩), .agg #[l, .int .i64 x.room, .int .i64 x.fail], .agg #[.int .i64 5, .int .i64 F, .int .i64 N, .string s, v]] w (fun e w' => ∃ D' x', Spoils D D' ∧ Spoils x x' ∧ DoPost b B w D' x' e w') := by
  have hc60 := cutS_size s 60
  obtain ⟨g, cap, rfl, hg, hgl, hcap, _, _⟩ := own_cases hx (by omega)
  have hgb := hbB g rfl
  have HX := hd hx
  have HD := hd hD
  have hlt := hD.lt
  clear hx hD hbB
  go_enter Try.func17, Try.ntmps17
  go_wp2_with fail
  refine (cut_any s 60 _ hs).mono ?_
  rintro e w' ⟨rfl, rfl⟩
  generalize cutS s 60 = S at *
  go_wp2_with fail
  refine (spoil_any D F N S.size _ b (by repeat (first | with_reducible exact HD.out | with_reducible refine Blk.alloc ?_ _ | with_reducible refine Blk.drew ?_ | with_reducible refine Blk.set_other ?_ (by first | (simp; done) | (simp; omega)) _ | exact HD.out)) hDf.small (by omega)).mono ?_
  rintro e w1 ⟨is, D', rfl, hu1, hS, hd1⟩
  have hb0 := Blk.upd (((Blk.new w _ _).alloc _).alloc _) hu1 (by simp; omega)
  have hb1 := Blk.upd ((Blk.new' (w.alloc _) _ _ (k := w.heap.size + 1) (by simp)).alloc _) hu1 (by simp; omega)
  have hb2 := Blk.upd (Blk.new' ((w.alloc _).alloc _) _ _ (k := w.heap.size + 1 + 1) (by simp)) hu1 (by simp; omega)
  have hU1 : Upd [b] w w1 := ((((Upd.refl _ w).alloc _).alloc _).alloc _).trans hu1
  have hx1 := own_upd (L := [b]) HX.out hU1 (by simpa [Value.ownBlock] using hgb)
  have hn0 := own_ne_blk hx1 hb0 (by decide)
  have hn2 := own_ne_blk hx1 hb2 (by decide)
  have hl2 := hb2.lt
  have HB0 := hd hb0
  have HB1 := hd hb1
  have HB2 := hd hb2
  have HU1 := hd hU1
  have HX1 := hd hx1
  have HD1 := hd hd1
  have HS1 := hd hS
  have hlt1 := hd1.lt
  clear hu1 hd1 hb0 hb1 hb2 hU1 hx1 hS
  have hca : ∀ (y : Later [] w1) o, y.world.cell? ⟨w.heap.size + 1, o, none⟩ = #[Value.int .i64 5, .int .i64 F, .int .i64 N, .string S, v][o]? := fun y => (y.blk HB1.out (by simp)).cell
  have hcd : ∀ (y : Later [] w1) o, y.world.cell? ⟨w.heap.size, o, none⟩ = #[Value.slice (some ⟨g, 0, none⟩) 4 cap, .int .i64 x.room, .int .i64 x.fail][o]? := fun y => (y.blk HB0.out (by simp)).cell
  by_cases hF0 : F < 0
  · have g0 : decide (0 ≤ F) = false := by simp; omega
    go_wp2_with fail
    refine wp_region_later [] (by kernel_rfl) (by kernel_rfl) ?_
    repeat (go_big_quiet_step (fail))
    refine wpQuiet_nil ?_
    intro W2 hu2
    have hb0 := HB0.out.upd hu2 (by simp)
    have hb2 := HB2.out.upd hu2 (by simp)
    have hc0 := hb0.cell
    have hc2 := hb2.cell
    have hz2 := hb2.frozen
    have hl22 := hb2.lt
    have HX2 := hd (own_upd (L := []) HX1.out hu2 (fun _ _ => by simp))
    have HD2 := hd (HD1.out.upd hu2 (by simp))
    have HU2 := hd (HU1.out.trans (hu2.mono (by simp)))
    clear hu2 hb0 hb2
    cases is
    · go_wp2
      refine bodyPost_ret (v := .tuple #[.agg #[.slice (some ⟨g, 0, none⟩) 4 cap, .int .i64 x.room, .int .i64 x.fail], .bool true]) (by simp [results, Try.results17, go_sem, hc2]) rfl ?_
      exact ⟨_, _, HS1.out, .inl rfl, _, _, rfl, HU2.out.trans' (M := [w.heap.size, w.heap.size + 2]) (by repeat (first | with_reducible exact HU2.out | with_reducible exact Upd.refl _ _ | with_reducible refine Upd.alloc ?_ _ | with_reducible refine Upd.drew ?_ | with_reducible refine Upd.setCell ?_ (by first | (simp; done) | (simp; omega)) _)) (by simp), (by repeat (first | with_reducible exact HD2.out | with_reducible refine Blk.alloc ?_ _ | with_reducible refine Blk.drew ?_ | with_reducible refine Blk.set_other ?_ (by first | (simp; done) | (simp; omega)) _ | exact HD2.out)), own_upd (L := [w.heap.size + 2]) HX2.out (by repeat (first | with_reducible exact HU2.out | with_reducible exact Upd.refl _ _ | with_reducible refine Upd.alloc ?_ _ | with_reducible refine Upd.drew ?_ | with_reducible refine Upd.setCell ?_ (by first | (simp; done) | (simp; omega)) _)) (by simp [Value.ownBlock]; omega)⟩
    · go_wp2
      refine bodyPost_ret (v := .tuple #[.agg #[.slice (some ⟨g, 0, none⟩) 4 cap, .int .i64 x.room, .int .i64 x.fail], .bool false]) (by simp [results, Try.results17, go_sem, hc2]) rfl ?_
      exact ⟨_, _, HS1.out, .inl rfl, _, _, rfl, HU2.out.trans' (M := [w.heap.size, w.heap.size + 2]) (by repeat (first | with_reducible exact HU2.out | with_reducible exact Upd.refl _ _ | with_reducible refine Upd.alloc ?_ _ | with_reducible refine Upd.drew ?_ | with_reducible refine Upd.setCell ?_ (by first | (simp; done) | (simp; omega)) _)) (by simp), (by repeat (first | with_reducible exact HD2.out | with_reducible refine Blk.alloc ?_ _ | with_reducible refine Blk.drew ?_ | with_reducible refine Blk.set_other ?_ (by first | (simp; done) | (simp; omega)) _ | exact HD2.out)), own_upd (L := [w.heap.size + 2]) HX2.out (by repeat (first | with_reducible exact HU2.out | with_reducible exact Upd.refl _ _ | with_reducible refine Upd.alloc ?_ _ | with_reducible refine Upd.drew ?_ | with_reducible refine Upd.setCell ?_ (by first | (simp; done) | (simp; omega)) _)) (by simp [Value.ownBlock]; omega)⟩
  have g0 : decide (0 ≤ F) = true := by simp; omega
  by_cases hF4 : 4 ≤ F
  · have g1 : decide (F < 4) = false := by simp; omega
    go_wp2_with fail
    refine wp_region_later [] (by kernel_rfl) (by kernel_rfl) ?_
    repeat (go_big_quiet_step (fail))
    refine wpQuiet_nil ?_
    intro W2 hu2
    have hb0 := HB0.out.upd hu2 (by simp)
    have hb2 := HB2.out.upd hu2 (by simp)
    have hc0 := hb0.cell
    have hc2 := hb2.cell
    have hz2 := hb2.frozen
    have hl22 := hb2.lt
    have HX2 := hd (own_upd (L := []) HX1.out hu2 (fun _ _ => by simp))
    have HD2 := hd (HD1.out.upd hu2 (by simp))
    have HU2 := hd (HU1.out.trans (hu2.mono (by simp)))
    clear hu2 hb0 hb2
    cases is
    · go_wp2
      refine bodyPost_ret (v := .tuple #[.agg #[.slice (some ⟨g, 0, none⟩) 4 cap, .int .i64 x.room, .int .i64 x.fail], .bool true]) (by simp [results, Try.results17, go_sem, hc2]) rfl ?_
      exact ⟨_, _, HS1.out, .inl rfl, _, _, rfl, HU2.out.trans' (M := [w.heap.size, w.heap.size + 2]) (by repeat (first | with_reducible exact HU2.out | with_reducible exact Upd.refl _ _ | with_reducible refine Upd.alloc ?_ _ | with_reducible refine Upd.drew ?_ | with_reducible refine Upd.setCell ?_ (by first | (simp; done) | (simp; omega)) _)) (by simp), (by repeat (first | with_reducible exact HD2.out | with_reducible refine Blk.alloc ?_ _ | with_reducible refine Blk.drew ?_ | with_reducible refine Blk.set_other ?_ (by first | (simp; done) | (simp; omega)) _ | exact HD2.out)), own_upd (L := [w.heap.size + 2]) HX2.out (by repeat (first | with_reducible exact HU2.out | with_reducible exact Upd.refl _ _ | with_reducible refine Upd.alloc ?_ _ | with_reducible refine Upd.drew ?_ | with_reducible refine Upd.setCell ?_ (by first | (simp; done) | (simp; omega)) _)) (by simp [Value.ownBlock]; omega)⟩
    · go_wp2
      refine bodyPost_ret (v := .tuple #[.agg #[.slice (some ⟨g, 0, none⟩) 4 cap, .int .i64 x.room, .int .i64 x.fail], .bool false]) (by simp [results, Try.results17, go_sem, hc2]) rfl ?_
      exact ⟨_, _, HS1.out, .inl rfl, _, _, rfl, HU2.out.trans' (M := [w.heap.size, w.heap.size + 2]) (by repeat (first | with_reducible exact HU2.out | with_reducible exact Upd.refl _ _ | with_reducible refine Upd.alloc ?_ _ | with_reducible refine Upd.drew ?_ | with_reducible refine Upd.setCell ?_ (by first | (simp; done) | (simp; omega)) _)) (by simp), (by repeat (first | with_reducible exact HD2.out | with_reducible refine Blk.alloc ?_ _ | with_reducible refine Blk.drew ?_ | with_reducible refine Blk.set_other ?_ (by first | (simp; done) | (simp; omega)) _ | exact HD2.out)), own_upd (L := [w.heap.size + 2]) HX2.out (by repeat (first | with_reducible exact HU2.out | with_reducible exact Upd.refl _ _ | with_reducible refine Upd.alloc ?_ _ | with_reducible refine Upd.drew ?_ | with_reducible refine Upd.setCell ?_ (by first | (simp; done) | (simp; omega)) _)) (by simp [Value.ownBlock]; omega)⟩
  obtain ⟨i, rfl⟩ : ∃ i : Nat, F = i := ⟨F.toNat, by omega⟩
  have hi4 : i < 4 := by omega
  have g1 : decide ((i : Int) < 4) = true := by simp; omega
  have g1' : decide (i < 4) = true := by simpa using hi4
  obtain ⟨r0, r1, r2⟩ := x.rows_get i hi4
  have hro : ∀ (y : Later [] w1) j, j < 4 * 3 → y.world.cell? ⟨g, j, none⟩ = x.rows[j]? := fun y => by
    obtain ⟨g', cap', e, _, _, _, hcc, _⟩ := own_cases (own_upd (L := []) HX1.out y.upd (fun _ _ => by simp)) (by omega)
    cases e
    exact hcc
  have n0 := fun y => (hro y (i * 3) (by omega)).trans r0
  have n1 := fun y => (hro y (i * 3 + 1) (by omega)).trans r1
  have hsm := (DiskS.get_small hxs i).1
  clear hro r0 r1 r2 hF0 hF4
  by_cases hsf : ((x.get i).now.toList == (x.get i).sure.toList) = true
  · by_cases hN0 : N < 0
    · have g2 : decide (0 ≤ N) = false := by simp; omega
      go_wp2_with fail
      refine wp_region_later [] (by kernel_rfl) (by kernel_rfl) ?_
      repeat (go_big_quiet_step (fail))
      refine wpQuiet_nil ?_
      intro W2 hu2
      have hb0 := HB0.out.upd hu2 (by simp)
      have hb2 := HB2.out.upd hu2 (by simp)
      have hc0 := hb0.cell
      have hc2 := hb2.cell
      have hz2 := hb2.frozen
      have hl22 := hb2.lt
      have HX2 := hd (own_upd (L := []) HX1.out hu2 (fun _ _ => by simp))
      have HD2 := hd (HD1.out.upd hu2 (by simp))
      have HU2 := hd (HU1.out.trans (hu2.mono (by simp)))
      clear hu2 hb0 hb2
      cases is
      · go_wp2
        refine bodyPost_ret (v := .tuple #[.agg #[.slice (some ⟨g, 0, none⟩) 4 cap, .int .i64 x.room, .int .i64 x.fail], .bool true]) (by simp [results, Try.results17, go_sem, hc2]) rfl ?_
        exact ⟨_, _, HS1.out, .inl rfl, _, _, rfl, HU2.out.trans' (M := [w.heap.size, w.heap.size + 2]) (by repeat (first | with_reducible exact HU2.out | with_reducible exact Upd.refl _ _ | with_reducible refine Upd.alloc ?_ _ | with_reducible refine Upd.drew ?_ | with_reducible refine Upd.setCell ?_ (by first | (simp; done) | (simp; omega)) _)) (by simp), (by repeat (first | with_reducible exact HD2.out | with_reducible refine Blk.alloc ?_ _ | with_reducible refine Blk.drew ?_ | with_reducible refine Blk.set_other ?_ (by first | (simp; done) | (simp; omega)) _ | exact HD2.out)), own_upd (L := [w.heap.size + 2]) HX2.out (by repeat (first | with_reducible exact HU2.out | with_reducible exact Upd.refl _ _ | with_reducible refine Upd.alloc ?_ _ | with_reducible refine Upd.drew ?_ | with_reducible refine Upd.setCell ?_ (by first | (simp; done) | (simp; omega)) _)) (by simp [Value.ownBlock]; omega)⟩
      · go_wp2
        refine bodyPost_ret (v := .tuple #[.agg #[.slice (some ⟨g, 0, none⟩) 4 cap, .int .i64 x.room, .int .i64 x.fail], .bool false]) (by simp [results, Try.results17, go_sem, hc2]) rfl ?_
        exact ⟨_, _, HS1.out, .inl rfl, _, _, rfl, HU2.out.trans' (M := [w.heap.size, w.heap.size + 2]) (by repeat (first | with_reducible exact HU2.out | with_reducible exact Upd.refl _ _ | with_reducible refine Upd.alloc ?_ _ | with_reducible refine Upd.drew ?_ | with_reducible refine Upd.setCell ?_ (by first | (simp; done) | (simp; omega)) _)) (by simp), (by repeat (first | with_reducible exact HD2.out | with_reducible refine Blk.alloc ?_ _ | with_reducible refine Blk.drew ?_ | with_reducible refine Blk.set_other ?_ (by first | (simp; done) | (simp; omega)) _ | exact HD2.out)), own_upd (L := [w.heap.size + 2]) HX2.out (by repeat (first | with_reducible exact HU2.out | with_reducible exact Upd.refl _ _ | with_reducible refine Upd.alloc ?_ _ | with_reducible refine Upd.drew ?_ | with_reducible refine Upd.setCell ?_ (by first | (simp; done) | (simp; omega)) _)) (by simp [Value.ownBlock]; omega)⟩
    have g2 : decide (0 ≤ N) = true := by simp; omega
    by_cases hN1 : ((x.get i).now.size : Int) ≤ N
    · have g3 : decide (N < ((x.get i).now.size : Int)) = false := by simp; omega
      go_wp2_with fail
      refine wp_region_later [] (by kernel_rfl) (by kernel_rfl) ?_
      repeat (go_big_quiet_step (fail))
      refine wpQuiet_nil ?_
      intro W2 hu2
      have hb0 := HB0.out.upd hu2 (by simp)
      have hb2 := HB2.out.upd hu2 (by simp)
      have hc0 := hb0.cell
      have hc2 := hb2.cell
      have hz2 := hb2.frozen
      have hl22 := hb2.lt
      have HX2 := hd (own_upd (L := []) HX1.out hu2 (fun _ _ => by simp))
      have HD2 := hd (HD1.out.upd hu2 (by simp))
      have HU2 := hd (HU1.out.trans (hu2.mono (by simp)))
      clear hu2 hb0 hb2
      cases is
      · go_wp2
        refine bodyPost_ret (v := .tuple #[.agg #[.slice (some ⟨g, 0, none⟩) 4 cap, .int .i64 x.room, .int .i64 x.fail], .bool true]) (by simp [results, Try.results17, go_sem, hc2]) rfl ?_
        exact ⟨_, _, HS1.out, .inl rfl, _, _, rfl, HU2.out.trans' (M := [w.heap.size, w.heap.size + 2]) (by repeat (first | with_reducible exact HU2.out | with_reducible exact Upd.refl _ _ | with_reducible refine Upd.alloc ?_ _ | with_reducible refine Upd.drew ?_ | with_reducible refine Upd.setCell ?_ (by first | (simp; done) | (simp; omega)) _)) (by simp), (by repeat (first | with_reducible exact HD2.out | with_reducible refine Blk.alloc ?_ _ | with_reducible refine Blk.drew ?_ | with_reducible refine Blk.set_other ?_ (by first | (simp; done) | (simp; omega)) _ | exact HD2.out)), own_upd (L := [w.heap.size + 2]) HX2.out (by repeat (first | with_reducible exact HU2.out | with_reducible exact Upd.refl _ _ | with_reducible refine Upd.alloc ?_ _ | with_reducible refine Upd.drew ?_ | with_reducible refine Upd.setCell ?_ (by first | (simp; done) | (simp; omega)) _)) (by simp [Value.ownBlock]; omega)⟩
      · go_wp2
        refine bodyPost_ret (v := .tuple #[.agg #[.slice (some ⟨g, 0, none⟩) 4 cap, .int .i64 x.room, .int .i64 x.fail], .bool false]) (by simp [results, Try.results17, go_sem, hc2]) rfl ?_
        exact ⟨_, _, HS1.out, .inl rfl, _, _, rfl, HU2.out.trans' (M := [w.heap.size, w.heap.size + 2]) (by repeat (first | with_reducible exact HU2.out | with_reducible exact Upd.refl _ _ | with_reducible refine Upd.alloc ?_ _ | with_reducible refine Upd.drew ?_ | with_reducible refine Upd.setCell ?_ (by first | (simp; done) | (simp; omega)) _)) (by simp), (by repeat (first | with_reducible exact HD2.out | with_reducible refine Blk.alloc ?_ _ | with_reducible refine Blk.drew ?_ | with_reducible refine Blk.set_other ?_ (by first | (simp; done) | (simp; omega)) _ | exact HD2.out)), own_upd (L := [w.heap.size + 2]) HX2.out (by repeat (first | with_reducible exact HU2.out | with_reducible exact Upd.refl _ _ | with_reducible refine Upd.alloc ?_ _ | with_reducible refine Upd.drew ?_ | with_reducible refine Upd.setCell ?_ (by first | (simp; done) | (simp; omega)) _)) (by simp [Value.ownBlock]; omega)⟩
    · obtain ⟨j, rfl⟩ : ∃ j : Nat, N = j := ⟨N.toNat, by omega⟩
      have hj : j < (x.get i).now.size := by omega
      have g3 : decide ((j : Int) < ((x.get i).now.size : Int)) = true := by simp; omega
      have g3' : decide (j < (x.get i).now.size) = true := by simpa using hj
      go_wp2_with fail
      refine wp_region_later [] (by kernel_rfl) (by kernel_rfl) ?_
      repeat (go_big_quiet_step (fail))
      refine wpQuiet_nil ?_
      intro W2 hu2
      have hb0 := HB0.out.upd hu2 (by simp)
      have hb2 := HB2.out.upd hu2 (by simp)
      have hc0 := hb0.cell
      have hc2 := hb2.cell
      have hz2 := hb2.frozen
      have hl22 := hb2.lt
      have HX2 := hd (own_upd (L := []) HX1.out hu2 (fun _ _ => by simp))
      have HD2 := hd (HD1.out.upd hu2 (by simp))
      have HU2 := hd (HU1.out.trans (hu2.mono (by simp)))
      have hz0 := hb0.frozen
      have HB0' := hd hb0
      have HB2' := hd hb2
      have hb1 := HB1.out.upd hu2 (by simp)
      have hc1 := hb1.cell
      have HB1' := hd hb1
      have hnW : W2.cell? ⟨g, i * 3, none⟩ = some (.string (x.get i).now) := n0 ⟨W2, hu2⟩
      clear hu2 hb0 hb1 hb2
      cases is
      · go_wp2
        refine bodyPost_ret (v := .tuple #[.agg #[.slice (some ⟨g, 0, none⟩) 4 cap, .int .i64 x.room, .int .i64 x.fail], .bool false]) (by simp [results, Try.results17, go_sem, hc2]) rfl ?_
        exact ⟨_, _, HS1.out, .inl rfl, _, _, rfl, HU2.out.trans' (M := [w.heap.size, w.heap.size + 2]) (by repeat (first | with_reducible exact HU2.out | with_reducible exact Upd.refl _ _ | with_reducible refine Upd.alloc ?_ _ | with_reducible refine Upd.drew ?_ | with_reducible refine Upd.setCell ?_ (by first | (simp; done) | (simp; omega)) _)) (by simp), (by repeat (first | with_reducible exact HD2.out | with_reducible refine Blk.alloc ?_ _ | with_reducible refine Blk.drew ?_ | with_reducible refine Blk.set_other ?_ (by first | (simp; done) | (simp; omega)) _ | exact HD2.out)), own_upd (L := [w.heap.size + 2]) HX2.out (by repeat (first | with_reducible exact HU2.out | with_reducible exact Upd.refl _ _ | with_reducible refine Upd.alloc ?_ _ | with_reducible refine Upd.drew ?_ | with_reducible refine Upd.setCell ?_ (by first | (simp; done) | (simp; omega)) _)) (by simp [Value.ownBlock]; omega)⟩
      · clear n0 n1 hca hcd
        go_wp2_with ((with_reducible refine wpList_conv_bytes rfl 9 47 5 _ rfl (x.get i).now rfl Try.underlying9 Try.underlying47 Try.underlying5 ?_); intro k' c w3 hk1 hk2 hsc hu3 hb3 hz3; have hcx := hb3 j hj; rw [Nat.zero_add] at hcx; have hzx := hz3 j hj; have HB3 := hd hb3; generalize hy : (x.get i).now.data.toList.getD j 0 = y at hcx; have HY := hd hy; have HU3 := hd hu3; have hb0 := HB0'.out.upd hu3 (by simp); have hb1 := HB1'.out.upd hu3 (by simp); have hb2 := HB2'.out.upd hu3 (by simp); have hc03 := hb0.cell; have hz03 := hb0.frozen; have hc13 := hb1.cell; have hc23 := hb2.cell; have hz23 := hb2.frozen; have hl23 := hb2.lt; have HX3 := hd (own_upd (L := []) HX2.out hu3 (fun _ _ => by simp)); have HD3 := hd (HD2.out.upd hu3 (by simp)); clear hy hb3 hz3 hu3 hb0 hb1 hb2)
        go_region
        have hxor : bits BinOp.xor .u8 (y.toNat : Int) (S.size : Int) = ((y ^^^ UInt8.ofNat S.size).toNat : Int) := by
          rw [u8_xor_nat _ _ y.toNat_lt (by omega), UInt8.toNat_xor]
          simp only [UInt8.toNat_ofNat']
          rw [Nat.mod_eq_of_lt (by omega)]
        have HBS : Hd (BytesAt (w3.setCell ⟨k', j, none⟩ (.int .u8 (bits BinOp.xor .u8 (y.toNat : Int) (S.size : Int)))).drew k' 0 (spoilt (x.get i).now j (UInt8.ofNat S.size))) := hd (bytesAt_spoilt (w := w3) j (UInt8.ofNat S.size) HB3.out hj (v := .int .u8 (bits BinOp.xor .u8 (y.toNat : Int) (S.size : Int))) (by rw [hxor, HY.out]))
        have hk3 : w.heap.size + 2 < w3.heap.size := by omega
        clear hxor
        go_wp2_with (with_reducible refine wpList_conv_string rfl 47 9 5 _ rfl k' 0 _ _ (spoilt (x.get i).now j (UInt8.ofNat S.size)) rfl Try.underlying47 Try.underlying5 Try.underlying9 (spoilt_size _ _ _) HBS.out ?_)
        have hk2' : w.heap.size + 1 + 1 < k' := by omega
        have hgk : g ≠ k' := by omega
        have hU4 : Upd [k'] w3 (w3.setCell ⟨k', j, none⟩ (.int .u8 (bits BinOp.xor .u8 (y.toNat : Int) (S.size : Int)))).drew := ((Upd.refl _ _).setCell (by simp) _).drew
        have hx4 := own_upd (L := [k']) HX3.out hU4 (by simpa [Value.ownBlock] using hgk)
        refine (with_any x (.slice (some ⟨g, 0, none⟩) 4 cap) i ⟨spoilt (x.get i).now j (UInt8.ofNat S.size), spoilt (x.get i).now j (UInt8.ofNat S.size), false⟩ _ B hx4 hi4 (by have := hU4.size; omega)).mono ?_
        rintro e w5 ⟨l5, rfl, hu5, hx5⟩
        obtain ⟨g5, cap5, rfl, hg5, hgl5, _, _, _⟩ := own_cases hx5 (by omega)
        have hU5 : Upd [k'] w3 w5 := hU4.trans (hu5.mono (by simp))
        have hW25 : Upd [] W2 w5 := HU3.out.trans' hU5 (by simp; omega)
        have hb0 := HB0'.out.upd hW25 (by simp)
        have hb2 := HB2'.out.upd hW25 (by simp)
        have hd5 := HD2.out.upd hW25 (by simp)
        have hn50 := own_ne_blk hx5 hb0 (by decide)
        have hn52 := own_ne_blk hx5 hb2 (by decide)
        have hc05 := hb0.cell
        have hz05 := hb0.frozen
        have hc25 := hb2.cell
        have hz25 := hb2.frozen
        have hl25 := hb2.lt
        have HU5 := hd (HU2.out.trans (hW25.mono (by simp)))
        have HX5 := hd hx5
        have HD5 := hd hd5
        clear hU4 hx4 hu5 hx5 hU5 hW25 hb0 hb2 hd5
        go_wp2
        refine bodyPost_ret (v := .tuple #[.agg #[.slice (some ⟨g5, 0, none⟩) 4 cap5, .int .i64 x.room, .int .i64 x.fail], .bool true]) (by simp [results, Try.results17, go_sem, hc25]) rfl ?_
        refine ⟨D', x.set i ⟨spoilt (x.get i).now j (UInt8.ofNat S.size), spoilt (x.get i).now j (UInt8.ofNat S.size), false⟩, HS1.out, .inr ⟨i, _, hi4, rfl, spoilt_size _ _ _⟩, _, _, by rw [DiskS.set_room, DiskS.set_fail], HU5.out.trans' (M := [w.heap.size, w.heap.size + 2]) (by repeat (first | with_reducible exact HU5.out | with_reducible exact Upd.refl _ _ | with_reducible refine Upd.alloc ?_ _ | with_reducible refine Upd.drew ?_ | with_reducible refine Upd.setCell ?_ (by first | (simp; done) | (simp; omega)) _)) (by simp), (by repeat (first | with_reducible exact HD5.out | with_reducible refine Blk.alloc ?_ _ | with_reducible refine Blk.drew ?_ | with_reducible refine Blk.set_other ?_ (by first | (simp; done) | (simp; omega)) _ | exact HD5.out)), ?_⟩
        exact own_mono (own_upd (L := [w.heap.size, w.heap.size + 2]) HX5.out (by repeat (first | with_reducible exact HU5.out | with_reducible exact Upd.refl _ _ | with_reducible refine Upd.alloc ?_ _ | with_reducible refine Upd.drew ?_ | with_reducible refine Upd.setCell ?_ (by first | (simp; done) | (simp; omega)) _)) (by simp [Value.ownBlock]; omega)) (by have := HU3.out.size; have := HU2.out.size; simp; omega)
  · have hsf' : ((x.get i).now.toList == (x.get i).sure.toList) = false := by simpa using hsf
    clear hsf
    go_wp2_with fail
    refine wp_region_later [] (by kernel_rfl) (by kernel_rfl) ?_
    repeat (go_big_quiet_step (fail))
    refine wpQuiet_nil ?_
    intro W2 hu2
    have hb0 := HB0.out.upd hu2 (by simp)
    have hb2 := HB2.out.upd hu2 (by simp)
    have hc0 := hb0.cell
    have hc2 := hb2.cell
    have hz2 := hb2.frozen
    have hl22 := hb2.lt
    have HX2 := hd (own_upd (L := []) HX1.out hu2 (fun _ _ => by simp))
    have HD2 := hd (HD1.out.upd hu2 (by simp))
    have HU2 := hd (HU1.out.trans (hu2.mono (by simp)))
    clear hu2 hb0 hb2
    cases is
    · go_wp2
      refine bodyPost_ret (v := .tuple #[.agg #[.slice (some ⟨g, 0, none⟩) 4 cap, .int .i64 x.room, .int .i64 x.fail], .bool true]) (by simp [results, Try.results17, go_sem, hc2]) rfl ?_
      exact ⟨_, _, HS1.out, .inl rfl, _, _, rfl, HU2.out.trans' (M := [w.heap.size, w.heap.size + 2]) (by repeat (first | with_reducible exact HU2.out | with_reducible exact Upd.refl _ _ | with_reducible refine Upd.alloc ?_ _ | with_reducible refine Upd.drew ?_ | with_reducible refine Upd.setCell ?_ (by first | (simp; done) | (simp; omega)) _)) (by simp), (by repeat (first | with_reducible exact HD2.out | with_reducible refine Blk.alloc ?_ _ | with_reducible refine Blk.drew ?_ | with_reducible refine Blk.set_other ?_ (by first | (simp; done) | (simp; omega)) _ | exact HD2.out)), own_upd (L := [w.heap.size + 2]) HX2.out (by repeat (first | with_reducible exact HU2.out | with_reducible exact Upd.refl _ _ | with_reducible refine Upd.alloc ?_ _ | with_reducible refine Upd.drew ?_ | with_reducible refine Upd.setCell ?_ (by first | (simp; done) | (simp; omega)) _)) (by simp [Value.ownBlock]; omega)⟩
    · go_wp2
      refine bodyPost_ret (v := .tuple #[.agg #[.slice (some ⟨g, 0, none⟩) 4 cap, .int .i64 x.room, .int .i64 x.fail], .bool false]) (by simp [results, Try.results17, go_sem, hc2]) rfl ?_
      exact ⟨_, _, HS1.out, .inl rfl, _, _, rfl, HU2.out.trans' (M := [w.heap.size, w.heap.size + 2]) (by repeat (first | with_reducible exact HU2.out | with_reducible exact Upd.refl _ _ | with_reducible refine Upd.alloc ?_ _ | with_reducible refine Upd.drew ?_ | with_reducible refine Upd.setCell ?_ (by first | (simp; done) | (simp; omega)) _)) (by simp), (by repeat (first | with_reducible exact HD2.out | with_reducible refine Blk.alloc ?_ _ | with_reducible refine Blk.drew ?_ | with_reducible refine Blk.set_other ?_ (by first | (simp; done) | (simp; omega)) _ | exact HD2.out)), own_upd (L := [w.heap.size + 2]) HX2.out (by repeat (first | with_reducible exact HU2.out | with_reducible exact Upd.refl _ _ | with_reducible refine Upd.alloc ?_ _ | with_reducible refine Upd.drew ?_ | with_reducible refine Upd.setCell ?_ (by first | (simp; done) | (simp; omega)) _)) (by simp [Value.ownBlock]; omega)⟩
end Go.Proofs.Ytjaoiaknglnomaa
