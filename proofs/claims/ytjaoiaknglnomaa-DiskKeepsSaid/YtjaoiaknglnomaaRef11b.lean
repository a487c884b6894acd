/-
  The document's disk (chatelaineref11), walked: Crash. Conditions: strings of at most 2^40 bytes each; what is for sure of a file that was not put is no longer than what it has.
-/
import Derived.Test.YtjaoiaknglnomaaDisk5
import Derived.Test.YtjaoiaknglnomaaRef11a
import Derived.Deep.DeepCutAuto
set_option linter.unusedVariables false
set_option maxRecDepth 100000
namespace Go.Proofs.Ytjaoiaknglnomaa
open Go.RowKit

theorem DiskS.rows_get (d : DiskS) (i : Nat) (hi : i < 4) : d.rows[i * 3]? = some (.string (d.get i).now) ∧ d.rows[i * 3 + 1]? = some (.string (d.get i).sure) ∧ d.rows[i * 3 + 2]? = some (.bool (d.get i).put) := by
  rcases (by omega : i = 0 ∨ i = 1 ∨ i = 2 ∨ i = 3) with rfl | rfl | rfl | rfl <;> exact ⟨rfl, rfl, rfl⟩

theorem DiskS.rows_rf (d : DiskS) (r f : Int) (k : Nat) (x : FileS) : (({ f0 := d.f0, f1 := d.f1, f2 := d.f2, f3 := d.f3, room := r, fail := f } : DiskS).set k x).rows = (d.set k x).rows := by
  match k with
  | 0 => rfl
  | 1 => rfl
  | 2 => rfl
  | _ + 3 => rfl

/-- How many choices are taken by the first k files. -/
def takenTo (d : DiskS) : Nat → Nat
  | 0 => 0
  | k + 1 => if (d.get k).safe then takenTo d k else takenTo d k + 1
theorem takenTo_le (d : DiskS) (k : Nat) : takenTo d k ≤ k := by
  induction k with
  | zero => simp [takenTo]
  | succ k ih => simp only [takenTo]; split <;> omega
theorem crashTo_rest (d : DiskS) (cs : List Int) (k : Nat) : (crashTo d cs k).2 = cs.drop (takenTo d k) := by
  induction k with
  | zero => rfl
  | succ k ih =>
    simp only [crashTo, crashStep, takenTo]
    split
    · exact ih
    · rw [ih]; simp

theorem DiskS.get_set_ne (d : DiskS) (i j : Nat) (f : FileS) (hi : i < 4) (hj : j < 4) (h : i ≠ j) : (d.set i f).get j = d.get j := by
  rcases (by omega : i = 0 ∨ i = 1 ∨ i = 2 ∨ i = 3) with rfl | rfl | rfl | rfl <;> rcases (by omega : j = 0 ∨ j = 1 ∨ j = 2 ∨ j = 3) with rfl | rfl | rfl | rfl <;> first | rfl | exact absurd rfl h
theorem crashTo_get (d : DiskS) (cs : List Int) (k j : Nat) (hk : k ≤ j) (hj : j < 4) : (crashTo d cs k).1.get j = d.get j := by
  induction k with
  | zero => rcases (by omega : j = 0 ∨ j = 1 ∨ j = 2 ∨ j = 3) with rfl | rfl | rfl | rfl <;> rfl
  | succ k ih =>
    simp only [crashTo, crashStep]
    split
    · rw [DiskS.get_set_ne _ _ _ _ (by omega) hj (by omega)]; exact ih (by omega)
    · rw [DiskS.get_set_ne _ _ _ _ (by omega) hj (by omega)]; exact ih (by omega)

theorem rem_range (c W : Int) (h0 : 1 ≤ W) : (c.tmod W < 0 ∧ c.tmod W + W = c % W) ∨ (0 ≤ c.tmod W ∧ c.tmod W = c % W) := by
  rcases Int.lt_or_le (c.tmod W) 0 with h | h
  · refine .inl ⟨h, ?_⟩
    rw [Int.tmod_eq_emod] at h ⊢
    split at h
    · have := Int.emod_nonneg c (b := W) (by omega); omega
    · rename_i hc; rw [if_neg hc]; omega
  · refine .inr ⟨h, ?_⟩
    rw [Int.tmod_eq_emod] at h ⊢
    split
    · omega
    · rename_i hc; rw [if_neg hc] at h; have := Int.emod_lt_of_pos c (b := W) (by omega); omega

/-- What is left of a file, whatever it is. -/
def FileS.after (f : FileS) (c : Int) : ByteArray := if f.safe then f.now else f.left c

theorem crashTo_succ (d : DiskS) (cs : List Int) (k : Nat) : (crashTo d cs (k + 1)).1 = (crashTo d cs k).1.set k ⟨(d.get k).after ((cs.drop (takenTo d k)).headD 0), (d.get k).after ((cs.drop (takenTo d k)).headD 0), false⟩ := by
  simp only [crashTo, crashStep, FileS.after, crashTo_rest]
  split <;> rfl

set_option maxHeartbeats 1000000 in
theorem crash_ref (x : DiskS) (l v : Value) (cs : List Int) (w : World) (B B' : Nat) (hx : RefAt B w l x) (hs : x.small) (ho : x.ok) (hv : IntsAt B' w v cs) (hB : B ≤ w.heap.size) :
    Calls Try.prog 48 #[.agg #[l, .int .i64 x.room, .int .i64 x.fail], v] w fun e w' =>
      ∃ l', e = .returned (.agg #[l', .int .i64 x.room, .int .i64 (-1)]) ∧ Upd [] w w' ∧ RefAt B w' l' (x.crashIt cs) := by
  go_enter Try.func48, Try.ntmps48
  have HX := hd hx
  have HV := hd hv
  clear hx hv
  go_wp2
  go_loopw [5, 6] (fun c i wr => ∃ (k : Nat) (l' : Value), k ≤ 4 ∧ i = .int .i64 k ∧ c = .int .i64 (takenTo x k) ∧ Upd [] w wr ∧ RefAt B wr l' (crashTo x cs k).1 ∧ (∀ g, l'.ownBlock = some g → g ≠ w.heap.size ∧ g ≠ w.heap.size + 1) ∧
     Blk wr w.heap.size #[l', .int .i64 x.room, .int .i64 (-1)] 28 ∧ Blk wr (w.heap.size + 1) #[.slice none 0 0, .int .i64 0, .int .i64 0] 28) (fun _ i _ => 4 - (intOf i).toNat)
  case atStart =>
    refine ⟨0, l, by omega, rfl, rfl, ((Upd.refl _ _).alloc _).alloc _, own_upd (L := []) HX.out (((Upd.refl _ _).alloc _).alloc _) (fun _ _ => by simp), fun g hg => by have := (HX.out.lt g hg).2; omega, ?_, ?_⟩
    · exact (Blk.new w _ _).alloc _
    · exact Blk.new' _ _ _ (by simp)
  case round =>
    obtain ⟨k, l', hk, rfl, rfl, hu, hr, hne, hb0, hb1⟩ := hrel
    by_cases hlt : k < 4
    · clear hne
      obtain ⟨g, cap, rfl, hg, hgl, hcap, hc, hz⟩ := own_cases hr (by omega)
      obtain ⟨r0, r1, r2⟩ := (crashTo x cs k).1.rows_get k hlt
      rw [crashTo_get x cs k k (Nat.le_refl _) hlt] at r0 r1 r2
      have n0 := (hc (k * 3) (by omega)).trans r0
      have n1 := (hc (k * 3 + 1) (by omega)).trans r1
      have n2 := (hc (k * 3 + 2) (by omega)).trans r2
      clear r0 r1 r2 hc hz
      have hl1 := hb1.lt
      have hc0 := hb0.cell
      have hz0 := hb0.frozen
      have HR := hd hr
      have HU := hd hu
      have HB0 := hd hb0
      have HB1 := hd hb1
      clear hr hu hb0 hb1
      have hok := ho k
      have hfs := DiskS.get_small hs k
      have HTK := hd (show takenTo x (k + 1) = if (x.get k).safe then takenTo x k else takenTo x k + 1 from rfl)
      have hcs0 := HV.out.upd HU.out (by simp)
      generalize hf : x.get k = f at *
      have HF := hd hf
      clear hf
      generalize hsb : (f.now.toList == f.sure.toList) = sb
      have HS := hd (show f.safe = sb from hsb)
      go_upto_if 27 with (fail)
      go_cut [5, 8] (fun s5 s8 wx => s5 = .int .i64 ((takenTo x (k + 1) : Nat) : Int) ∧ s8 = .string (f.after ((cs.drop (takenTo x k)).headD 0)) ∧ wx = wr.alloc (.cells #[.string f.now, .string f.sure, .bool f.put] 94))
      case first =>
        clear n0 n1 n2 hsb
        obtain ⟨fs0, fs1⟩ := hfs
        unfold FileS.ok at hok
        have htk := takenTo_le x k
        cases sb
        · obtain ⟨a, cap', rfl, hl', _, hcc⟩ := hcs0
          by_cases hlen : takenTo x k < cs.length
          · obtain ⟨kb, ob, rfl, hkB, hkw, hcc⟩ := hcc (by intro e; rw [e] at hlen; simp at hlen)
            have hcx := hcc _ hlen
            have HC := hd (show (cs.drop (takenTo x k)).headD 0 = cs.getD (takenTo x k) 0 by rw [List.headD_eq_head?_getD, List.head?_drop]; rfl)
            clear hcc
            generalize cs.getD (takenTo x k) 0 = c at *
            cases hp : f.put
            · have hop := hok hp
              have e := rem_range c ((f.now.size : Int) - f.sure.size + 1) (by omega)
              have b0 := Int.emod_nonneg c (b := (f.now.size : Int) - f.sure.size + 1) (by omega)
              have b1 := Int.emod_lt_of_pos c (b := (f.now.size : Int) - f.sure.size + 1) (by omega)
              have HA := hd (show f.after c = f.now.extract 0 (f.sure.size + c % ((f.now.size : Int) - f.sure.size + 1)).toNat by simp [FileS.after, HS.out, FileS.left, FileS.ways, hp])
              generalize c % ((f.now.size : Int) - f.sure.size + 1) = r at *
              obtain ⟨r, rfl⟩ : ∃ r' : Nat, r = r' := ⟨r.toNat, by omega⟩
              rcases e with ⟨e1, e2⟩ | ⟨e1, e2⟩
              all_goals
                go_wp2_with fail
                go_meet
                exact ⟨by rw [HTK.out, if_neg (by rw [HS.out]; simp)]; go_num, by rw [HC.out, HA.out]; rfl, by rw [hp]⟩
            · have e := rem_range c ((f.now.size : Int) + 2) (by omega)
              have b0 := Int.emod_nonneg c (b := (f.now.size : Int) + 2) (by omega)
              have b1 := Int.emod_lt_of_pos c (b := (f.now.size : Int) + 2) (by omega)
              have HA := hd (show f.after c = if c % ((f.now.size : Int) + 2) = 0 then f.sure else f.now.extract 0 (c % ((f.now.size : Int) + 2) - 1).toNat by simp [FileS.after, HS.out, FileS.left, FileS.ways, hp])
              generalize c % ((f.now.size : Int) + 2) = r at *
              obtain ⟨r, rfl⟩ : ∃ r' : Nat, r = r' := ⟨r.toNat, by omega⟩
              by_cases h0 : r = 0
              · subst h0
                rcases e with ⟨e1, e2⟩ | ⟨e1, e2⟩
                all_goals
                  go_wp2_with fail
                  go_meet
                  exact ⟨by rw [HTK.out, if_neg (by rw [HS.out]; simp)]; go_num, by rw [HC.out, HA.out]; rfl, by rw [hp]⟩
              · rcases e with ⟨e1, e2⟩ | ⟨e1, e2⟩
                all_goals
                  go_wp2_with fail
                  go_meet
                  exact ⟨by rw [HTK.out, if_neg (by rw [HS.out]; simp)]; go_num, by rw [HC.out, HA.out, if_neg (by omega), show ((r : Int) - 1).toNat = r - 1 by omega], by rw [hp]⟩
          · have HC := hd (show (cs.drop (takenTo x k)).headD 0 = 0 by rw [List.drop_eq_nil_of_le (by omega)]; rfl)
            cases hp : f.put
            · have hop := hok hp
              have HA := hd (show f.after 0 = f.now.extract 0 f.sure.size by simp [FileS.after, HS.out, FileS.left, FileS.ways, hp])
              go_wp2_with fail
              go_meet
              exact ⟨by rw [HTK.out, if_neg (by rw [HS.out]; simp)]; go_num, by rw [HC.out, HA.out], by rw [hp]⟩
            · have HA := hd (show f.after 0 = f.sure by simp [FileS.after, HS.out, FileS.left, FileS.ways, hp])
              go_wp2_with fail
              go_meet
              exact ⟨by rw [HTK.out, if_neg (by rw [HS.out]; simp)]; go_num, by rw [HC.out, HA.out], by rw [hp]⟩
        · go_wp2_with fail
          go_meet
          exact ⟨by rw [HTK.out, if_pos HS.out], by rw [FileS.after, if_pos HS.out], rfl⟩
      case rest =>
        obtain ⟨rfl, rfl, rfl⟩ := hcut
        have hlw : w.heap.size < wr.heap.size := by omega
        clear n0 n1 n2 hsb
        have HK := hd (crashTo_succ x cs k)
        rw [HF.out] at HK
        generalize hcc : (cs.drop (takenTo x k)).headD 0 = c0 at *
        clear hcc hcs0
        go_wp2_with fail
        refine (with_any { (crashTo x cs k).1 with room := x.room, fail := -1 } (.slice (some ⟨g, 0, none⟩) 4 cap) k ⟨f.after c0, f.after c0, false⟩ _ B (own_upd HR.out ((Upd.refl [] _).alloc _) (fun _ _ => by simp)) hlt (by simp; omega)).mono ?_
        rintro e w3 ⟨l3, rfl, hu3, hr3⟩
        have hU3 : Upd [] wr w3 := ((Upd.refl _ _).alloc _).trans hu3
        have hb0 := HB0.out.upd hU3 (by simp)
        have hb1 := HB1.out.upd hU3 (by simp)
        have hc3 := hb0.cell
        have hz3 := hb0.frozen
        have hlw3 := hb0.lt
        have HU3 := hd hU3
        have HB0' := hd hb0
        have HB1' := hd hb1
        have HR3 := hd hr3
        obtain ⟨g3, cap3, rfl, hg3, hgl3, _, _, _⟩ := own_cases hr3 (by omega)
        simp only [World.size_alloc] at hg3
        clear hu3 hU3 hb0 hb1 hr3 HB0 HB1 HR hc0 hz0
        go_wp2
        go_roundw
        case rel =>
          refine ⟨k + 1, .slice (some ⟨g3, 0, none⟩) 4 cap3, by omega, by go_num, rfl, (HU.out.trans HU3.out).trans' (M := [w.heap.size]) ((((Upd.refl _ _).setCell (by simp) _).setCell (by simp) _).setCell (by simp) _) (by simp), ?_, fun g hg => by simp [Value.ownBlock] at hg; omega, ?_, ?_⟩
          · rw [HK.out]
            have hr3 := HR3.out
            simp only [RefAt, DiskS.rows_rf, World.size_alloc] at hr3
            refine own_mono (own_upd (L := [w.heap.size]) hr3 ((((Upd.refl _ _).setCell (by simp) _).setCell (by simp) _).setCell (by simp) _) (by simp [Value.ownBlock]; omega)) (by omega)
          · exact ((HB0'.out.set 0 _).set 1 _).set 2 _
          · exact ((HB1'.out.set_other (by simp) _).set_other (by simp) _).set_other (by simp) _
        case measure => simp [intOf]; omega
    · have hk4 : k = 4 := by omega
      subst hk4
      have hl1 := hb1.lt
      have hlw : w.heap.size < wr.heap.size := by omega
      obtain ⟨g, cap, rfl, hg, hgl, _, _, _⟩ := own_cases hr (by omega)
      have hc0 := hb0.cell
      have hc1 := hb1.cell
      have hz1 := hb1.frozen
      have HR := hd hr
      have HU := hd hu
      have HB0 := hd hb0
      have HB1 := hd hb1
      have HNE := hd hne
      clear hr hu hb0 hb1 hne
      go_wp2
      refine bodyPost_ret (v := .agg #[.slice (some ⟨g, 0, none⟩) 4 cap, .int .i64 x.room, .int .i64 (-1)]) (by simp [results, Try.results48, go_sem, hc1]) rfl ?_
      refine ⟨_, rfl, HU.out.trans' (M := [w.heap.size + 1]) ((((Upd.refl _ _).setCell (by simp) _).setCell (by simp) _).setCell (by simp) _) (by simp), ?_⟩
      exact own_upd (L := [w.heap.size + 1]) HR.out ((((Upd.refl _ _).setCell (by simp) _).setCell (by simp) _).setCell (by simp) _) (fun g hg => by have := (HNE.out g hg).2; simpa using this)
end Go.Proofs.Ytjaoiaknglnomaa
