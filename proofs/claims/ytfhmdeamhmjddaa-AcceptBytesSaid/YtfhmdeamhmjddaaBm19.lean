/-
  ballot.Ballot.Put and accept.Acceptor.Put, walked: an acceptor's bytes. Conditions: numbers that there may be.
-/
import Derived.Test.YtfhmdeamhmjddaaBm18
import Derived.Test.YtfhmdeamhmjddaaBm1
import Derived.Deep.DeepCutAuto
import Derived.Deep.AppendLies
import Derived.Deep.RegionLaw
set_option linter.unusedVariables false
set_option linter.unusedSimpArgs false
set_option maxRecDepth 100000
namespace Go.Proofs.Ytfhmdeamhmjddaa
open Go.RowKit

theorem WrAt.later {B k : Nat} {v : Value} {l : List UInt8} {w W : World} (h : WrAt B w k v l) (hu : Upd [] w W) : WrAt B W k v l := ⟨h.blk.upd hu (by simp), own_upd h.own hu (by simp)⟩
theorem WrAt.ownlt {B k : Nat} {v : Value} {l : List UInt8} {w : World} (h : WrAt B w k v l) : ∀ g, v.ownBlock = some g → g < w.heap.size := fun g hg => (own_ge h.own g hg).2
/-- A block that is new stays under a writer's call. -/
theorem WrUp.keep {B k b : Nat} {v v' : Value} {l : List UInt8} {w w0 w' : World} {c : Array Value} {T : TypeId} (hu : WrUp k v v' w0 w') (hb : Blk w0 b c T) (hw : WrAt B w k v l) (hn : w.heap.size ≤ b) : Blk w' b c T :=
  hu.blk hb (by have := hw.blk.lt; omega) (fun e => by have := hw.ownlt b e.symm; omega)
/-- An acceptor stays under a writer's call. -/
theorem AccAt.wr {Ba B b k : Nat} {la v v' : Value} {d : AccS} {l : List UInt8} {w w' : World} (h : AccAt Ba w b la d) (hw : WrAt B w k v l) (hu : WrUp k v v' w w') : AccAt Ba w' b la d :=
  h.upd hu.upd (fun hm => by
    rcases List.mem_cons.1 hm with e | e
    · exact blk_ne h.blk hw.blk (by decide) e
    · exact own_ne_any hw.own h.blk (by decide) b (by simpa using e) rfl) (fun g hg hm => by
    rcases List.mem_cons.1 hm with e | e
    · exact own_ne_any h.own hw.blk (by decide) g hg e
    · exact own_own h.own hw.own (by decide) g hg (by simpa using e))

set_option maxHeartbeats 4000000 in
theorem bput_any (B k : Nat) (b : BalS) (v : Value) (l : List UInt8) (w : World) (hb : b.ok) (hw : WrAt B w k v l) (hl : l.length ≤ 1099511600000) (hB : B ≤ w.heap.size) :
    Calls Try.prog 56 #[.agg #[.int .u64 b.c, .int .i64 b.n], .pointer (some ⟨k, 0, none⟩)] w fun e w' =>
      e = .returned (.tuple #[]) ∧ ∃ v', WrAt B w' k v' (l ++ balBytes b) ∧ WrUp k v v' w w' := by
  have HBB := hd (show balBytes b = uBytes b.c.toNat ++ nBytes b.n from rfl)
  have hc0 := hb.c0
  have hc1 := hb.c1
  have hn1 := hb.n1
  clear hb
  obtain ⟨c, n⟩ := b
  simp only at *
  obtain ⟨c, rfl⟩ : ∃ m : Nat, c = m := ⟨c.toNat, by omega⟩
  rw [Int.toNat_natCast] at HBB
  have hul := uBytes_le c
  have hkl := hw.blk.lt
  have e0 : ∃ W, w.alloc (.cells #[.int .u64 c, .int .i64 n] 35) = W ∧ Upd [] w W ∧ Blk W w.heap.size #[.int .u64 c, .int .i64 n] 35 := ⟨_, rfl, (Upd.refl _ _).alloc _, Blk.new _ _ _⟩
  have HW := hd hw
  go_enter Try.func56, Try.ntmps56
  go_upto_region 1 with fail
  obtain ⟨W0, hW0, hu0, hB0⟩ := e0
  rw [hW0]
  clear hW0
  have HU0 := hd hu0
  have HB0 := hd hB0
  have HU := hd (show ∀ W ka, Upd [] W0 W → Blk W ka #[.int .u64 c] 29 → Calls Try.prog 78 #[.pointer (some ⟨k, 0, none⟩), .slice (some ⟨ka, 0, none⟩) 1 1] W fun e w' => e = .returned (.pointer (some ⟨k, 0, none⟩)) ∧ ∃ v', WrAt B w' k v' (l ++ uBytes c) ∧ WrUp k v v' W0 w' ∧ Blk w' w.heap.size #[.int .u64 c, .int .i64 n] 35 ∧ (∀ b c T, w.heap.size ≤ b → Blk W b c T → Blk w' b c T) from fun W ka hu hk =>
    (U_any B k ka [c] v l W ((HW.out.later HU0.out).later hu) (by simpa using hk) (by intro x hx; simp at hx; omega) (by simp; omega) (by have := HU0.out.size; have := hu.size; omega)).mono (by
      rintro e w' ⟨rfl, v', hw', hup⟩
      exact ⟨rfl, v', by simpa using hw', WrUp.pre hu hup, (WrUp.pre hu hup).keep HB0.out HW.out (Nat.le_refl _), fun b c T hb hB' => hup.keep hB' HW.out hb⟩))
  have HN := hd (show ∀ W ka v1, WrUp k v v1 W0 W → WrAt B W k v1 (l ++ uBytes c) → Blk W ka #[.int .i64 n] 3 → Calls Try.prog 57 #[.pointer (some ⟨k, 0, none⟩), .slice (some ⟨ka, 0, none⟩) 1 1] W fun e w' => e = .returned (.pointer (some ⟨k, 0, none⟩)) ∧ ∃ v', WrAt B w' k v' (l ++ (uBytes c ++ nBytes n)) ∧ WrUp k v v' W0 w' ∧ Blk w' w.heap.size #[.int .u64 c, .int .i64 n] 35 from fun W ka v1 hup hw1 hk =>
    (N_any B k ka [n] v1 (l ++ uBytes c) W hw1 (by simpa using hk) (by intro x hx; simp at hx; omega) (by simp; omega) (by have := HU0.out.size; have := hup.upd.size; omega)).mono (by
      rintro e w' ⟨rfl, v', hw', hup'⟩
      have h2 := hup.trans hup'
      exact ⟨rfl, v', by simpa [List.append_assoc] using hw', h2, h2.keep HB0.out HW.out (Nat.le_refl _)⟩))
  have HKS := hd (show ∀ W, Blk W w.heap.size #[.int .u64 c, .int .i64 n] 35 → ∀ o, W.cell? ⟨w.heap.size, o, none⟩ = #[.int .u64 c, .int .i64 n][o]? from fun W h => h.cell)
  have hs0 := hu0.size
  clear hw hul hkl hu0 hB0
  go_region_held3 (fun W => ∀ o, W.cell? ⟨w.heap.size, o, none⟩ = #[.int .u64 c, .int .i64 n][o]?)
    ((refine HKS.out _ ?_; repeat (first | with_reducible exact HB2.out | with_reducible exact HB1.out | with_reducible exact HB0.out | with_reducible refine Blk.drew ?_ | with_reducible refine Blk.alloc ?_ _)))
    (first
    | ((with_reducible refine (HU.out _ _ (by repeat (first | with_reducible exact Upd.refl _ _ | with_reducible refine Upd.drew ?_ | with_reducible refine Upd.alloc ?_ _)) (by repeat (first | with_reducible exact Blk.new _ _ _ | with_reducible exact Blk.new' _ _ _ (by simp) | with_reducible refine Blk.drew ?_ | with_reducible refine Blk.alloc ?_ _))).mono ?_); rintro x w1 ⟨rfl, v1, hw1, hup1, hb1, hk1⟩; have HW1 := hd hw1; have HUP1 := hd hup1; have HB1 := hd hb1; have HKP1 := hd hk1; clear hw1 hup1 hb1 hk1)
    | ((with_reducible refine (HN.out _ _ v1 (WrUp.later (M := []) HUP1.out (by repeat (first | with_reducible exact Upd.refl _ _ | with_reducible refine Upd.drew ?_ | with_reducible refine Upd.alloc ?_ _)) (by simp)) (WrAt.later HW1.out (by repeat (first | with_reducible exact Upd.refl _ _ | with_reducible refine Upd.drew ?_ | with_reducible refine Upd.alloc ?_ _))) (by repeat (first | with_reducible exact Blk.new _ _ _ | with_reducible exact Blk.new' _ _ _ (by simp) | with_reducible refine Blk.drew ?_ | with_reducible refine Blk.alloc ?_ _ | with_reducible refine HKP1.out _ _ _ (by omega) ?_))).mono ?_); rintro x w2 ⟨rfl, v2, hw2, hup2, hb2⟩; have HW2 := hd hw2; have HUP2 := hd hup2; have HB2 := hd hb2; clear hw2 hup2 hb2))
  all_goals
    go_wp2_with fail
    go_end0
    rw [HBB.out]
    first
    | exact ⟨rfl, v2, HW2.out, WrUp.pre HU0.out HUP2.out⟩
    | exact ⟨rfl, v2, HW2.out.later ((Upd.refl _ _).drew), (WrUp.pre HU0.out HUP2.out).later (M := []) ((Upd.refl _ _).drew) (by simp)⟩

theorem entry_bytes (e : EntS) : nBytes e.slot ++ (balBytes e.bal ++ sBytes e.text) = entBytes e := by unfold entBytes balBytes; simp only [List.append_assoc]

set_option maxHeartbeats 8000000 in
theorem aput_any (Ba B b k : Nat) (la : Value) (d : AccS) (v : Value) (l : List UInt8) (w : World) (h : AccAt Ba w b la d) (hs : d.small) (hw : WrAt B w k v l) (hl : l.length ≤ 1000000) (hB : B ≤ w.heap.size) :
    Calls Try.prog 26 #[.pointer (some ⟨b, 0, none⟩), .pointer (some ⟨k, 0, none⟩)] w fun e w' =>
      e = .returned (.tuple #[]) ∧ ∃ v', WrAt B w' k v' (l ++ d.bytes) ∧ WrUp k v v' w w' := by
  have HBY := hd (show d.bytes = (balBytes d.bal ++ (nBytes d.base ++ nBytes d.list.length)) ++ d.list.flatMap entBytes ++ (nBytes d.node ++ nBytes d.til) by unfold AccS.bytes balBytes; simp only [List.append_assoc])
  have hlen := hs.above.few
  have hbase := hs.fine.base1
  have hnode := hs.fine.node1
  have htil := hs.fine.til1
  have hb0 := balBytes_le d.bal
  have hb1 := nBytes_le d.base
  have hb2 := nBytes_le (d.list.length : Int)
  have HBAL := hd hs.bal
  have HEN := hd (fun (t : Nat) (ht : t < d.list.length) => hs.ents d.list[t] (List.getElem_mem _))
  have HEL := hd (fun (t : Nat) => entsBytes_le (d.list.take t) (fun e he => hs.ents e (List.mem_of_mem_take he)))
  obtain ⟨a, cap, rfl, hnc, hcm, hac⟩ := own_open2 h.own
  have HA := hd h
  have HW := hd hw
  have hc := h.blk.cell
  simp only [AccS.cells] at hc
  clear h hs hw
  go_enter Try.func26, Try.ntmps26
  go_wp2_with fail
  refine (bput_any B k d.bal v l w HBAL.out HW.out (by omega) hB).mono ?_
  rintro x w1 ⟨rfl, v1, hw1, hup1⟩
  have HA1 := hd (HA.out.wr HW.out hup1)
  have HW1 := hd hw1
  have HUP1 := hd hup1
  clear hc hw1 hup1
  have hc := HA1.out.blk.cell
  simp only [AccS.cells] at hc
  have HN1 := hd (show ∀ W ka, Upd [] w1 W → Blk W ka #[.int .i64 d.base, .int .i64 d.list.length] 3 → Calls Try.prog 57 #[.pointer (some ⟨k, 0, none⟩), .slice (some ⟨ka, 0, none⟩) 2 2] W fun e w' => e = .returned (.pointer (some ⟨k, 0, none⟩)) ∧ ∃ v', WrAt B w' k v' (l ++ (balBytes d.bal ++ (nBytes d.base ++ nBytes d.list.length))) ∧ WrUp k v v' w w' ∧ AccAt Ba w' b (.slice a d.list.length cap) d from fun W ka hu hk =>
    (N_any B k ka [d.base, (d.list.length : Int)] v1 (l ++ balBytes d.bal) W (HW1.out.later hu) (by simpa using hk) (by intro x hx; simp at hx; omega) (by simp; omega) (by have := HUP1.out.upd.size; have := hu.size; omega)).mono (by
      rintro e w' ⟨rfl, v', hw', hup⟩
      exact ⟨rfl, v', by simpa [List.append_assoc] using hw', HUP1.out.trans (WrUp.pre hu hup), (HA1.out.later hu).wr (HW1.out.later hu) hup⟩))
  go_upto_region 1 with fail
  go_cut [] (fun wx => ∃ v2, WrAt B wx k v2 (l ++ (balBytes d.bal ++ (nBytes d.base ++ nBytes d.list.length))) ∧ WrUp k v v2 w wx ∧ AccAt Ba wx b (.slice a d.list.length cap) d)
  case first =>
    go_region_with ((with_reducible refine (HN1.out _ _ (by repeat (first | with_reducible exact Upd.refl _ _ | with_reducible refine Upd.drew ?_ | with_reducible refine Upd.alloc ?_ _)) (by repeat (first | with_reducible exact Blk.new _ _ _ | with_reducible refine Blk.drew ?_ | with_reducible refine Blk.alloc ?_ _))).mono ?_); rintro x w2 ⟨rfl, v2, hw2, hup2, ha2⟩; have HW2 := hd hw2; have HUP2 := hd hup2; have HA2 := hd ha2; clear hw2 hup2 ha2)
    all_goals
      go_wp2_with fail
      go_meet
      case rel =>
        first
        | exact ⟨v2, HW2.out, HUP2.out, HA2.out⟩
        | exact ⟨v2, HW2.out.later ((Upd.refl _ _).drew), HUP2.out.later (M := []) ((Upd.refl _ _).drew) (by simp), HA2.out.later ((Upd.refl _ _).drew)⟩
  case rest =>
    obtain ⟨v2, hw2, hup2, ha2⟩ := hcut
    have HW2 := hd hw2
    have HUP2 := hd hup2
    have HA2 := hd ha2
    clear hc hw2 hup2 ha2 HN1 HA1 HW1 HUP1 HW HA
    have hc := HA2.out.blk.cell
    simp only [AccS.cells] at hc
    have hpl : (balBytes d.bal ++ (nBytes d.base ++ nBytes (d.list.length : Int))).length ≤ 36 := by simp only [List.length_append]; omega
    generalize hPRE : balBytes d.bal ++ (nBytes d.base ++ nBytes (d.list.length : Int)) = PRE at *
    have hPRE := hd hPRE
    go_wp2_with fail
    go_loopw [29] (fun c wr => ∃ (t : Nat) (v3 : Value), c = .int .i64 t ∧ t ≤ d.list.length ∧ WrAt B wr k v3 (l ++ (PRE ++ (d.list.take t).flatMap entBytes)) ∧ WrUp k v v3 w wr ∧ AccAt Ba wr b (.slice a d.list.length cap) d) (fun c _ => d.list.length - (intOf c).toNat)
    case atStart => exact ⟨0, v2, rfl, by omega, by simpa using HW2.out, HUP2.out, HA2.out⟩
    case round =>
      clear hc
      obtain ⟨t, v3, rfl, ht, hw3, hup3, ha3⟩ := hrel
      have HW3 := hd hw3
      have HUP3 := hd hup3
      have HA3 := hd ha3
      have htl := HEL.out t
      rw [List.length_take] at htl
      clear hw3 hup3 ha3
      by_cases htn : t < d.list.length
      · have htn' : (t : Int) < (d.list.length : Int) := by omega
        obtain ⟨g, cap', hge, hgB, hgl, -, hgc, hgz⟩ := own_cases HA3.out.own (by omega)
        simp only [Value.slice.injEq] at hge
        obtain ⟨rfl, -, rfl⟩ := hge
        obtain ⟨c0, c1, c2, c3⟩ := row_cells hgc t htn
        have HE := hd (HEN.out t htn)
        have HTK := hd (show (d.list.take (t + 1)).flatMap entBytes = (d.list.take t).flatMap entBytes ++ entBytes d.list[t] by rw [List.take_succ_eq_append_getElem htn, List.flatMap_append, List.flatMap_cons, List.flatMap_nil, List.append_nil])
        clear hgc hgz
        generalize d.list[t]'_ = e at *
        generalize (d.list.take t).flatMap entBytes = TK at *
        obtain ⟨s, ⟨cc, nn⟩, tx⟩ := e
        simp only at c0 c1 c2 c3
        have hs1 := HE.out.slot1
        have ht4 := HE.out.text
        simp only at hs1 ht4
        have hbl := balBytes_le ⟨cc, nn⟩
        have e4 : ∃ W, wr.alloc (.cells #[.int .i64 s, .int .u64 cc, .int .i64 nn, .string tx] 85) = W ∧ Upd [] wr W ∧ Blk W wr.heap.size #[.int .i64 s, .int .u64 cc, .int .i64 nn, .string tx] 85 := ⟨_, rfl, (Upd.refl _ _).alloc _, Blk.new _ _ _⟩
        go_upto_region 5 with fail
        obtain ⟨W4, hW4, hu4, hb4⟩ := e4
        rw [hW4]
        clear hW4 c0 c1 c2 c3
        obtain ⟨k5, hk5⟩ : ∃ k5, k5 = wr.heap.size := ⟨_, rfl⟩
        rw [← hk5] at hb4 ⊢
        have hk5n : wr.heap.size ≤ k5 := by omega
        clear hk5
        have HW4 := hd (HW3.out.later hu4)
        have HUP4 := hd (HUP3.out.later (M := []) hu4 (by simp))
        have HA4 := hd (HA3.out.later hu4)
        have HB4 := hd hb4
        have hs4 := hu4.size
        have hBw : B ≤ W4.heap.size := by have := HUP4.out.upd.size; omega
        have hwl3 := HW3.out.blk.lt
        have hol3 := HW3.out.ownlt
        have HOL := hd hol3
        clear hu4 hb4 hol3
        have hc5 := HB4.out.cell
        have e5 := hd (show Upd [] W4 (W4.alloc (.cells #[.int .i64 s] 3)) ∧ Blk (W4.alloc (.cells #[.int .i64 s] 3)) W4.heap.size #[.int .i64 s] 3 from ⟨(Upd.refl _ _).alloc _, Blk.new _ _ _⟩)
        go_wp2_with fail
        refine (N_any B k W4.heap.size [s] v3 (l ++ (PRE ++ TK)) _ (HW4.out.later e5.out.1) (by simpa using e5.out.2) (by intro x hx; simp at hx; omega) (by simp; omega) (by have := e5.out.1.size; omega)).mono ?_
        rintro x w6 ⟨rfl, v6, hw6, hup6⟩
        have hup6 := WrUp.pre e5.out.1 hup6
        have HB6 := hd (hup6.keep HB4.out HW3.out hk5n)
        have HA6 := hd (HA4.out.wr HW4.out hup6)
        have HW6 := hd (show WrAt B w6 k v6 (l ++ (PRE ++ (TK ++ nBytes s))) by simpa [List.append_assoc] using hw6)
        have HUP6 := hd (HUP4.out.trans hup6)
        have hs6 := hup6.upd.size
        have HOL6 := hd (show ∀ g, v6.ownBlock = some g → g ≠ k5 from fun g hg e => by
          rcases hup6.row g hg with q | q
          · have := HOL.out g q; omega
          · have := HB4.out.lt; omega)
        clear hw6 hup6 hc5 e5
        have hnb := nBytes_le s
        have hc5 := HB6.out.cell
        go_wp2_with fail
        refine (bput_any B k ⟨cc, nn⟩ v6 (l ++ (PRE ++ (TK ++ nBytes s))) w6 HE.out.bal HW6.out (by simp only [List.length_append]; omega) (by omega)).mono ?_
        rintro x w7 ⟨rfl, v7, hw7, hup7⟩
        have HB7 := hd (hup7.blk HB6.out (by omega) (fun e => HOL6.out k5 e.symm rfl))
        have HA7 := hd (HA6.out.wr HW6.out hup7)
        have HW7 := hd (show WrAt B w7 k v7 (l ++ (PRE ++ (TK ++ (nBytes s ++ balBytes ⟨cc, nn⟩)))) by simpa [List.append_assoc] using hw7)
        have HUP7 := hd (HUP6.out.trans hup7)
        have hs7 := hup7.upd.size
        clear hw7 hup7 hc5
        have hc5 := HB7.out.cell
        have hsb : (sBytes tx).length ≤ 409 := by
          have h1 := nBytes_le (tx.size : Int)
          have h2 : tx.data.toList.length = tx.size := by rw [Array.length_toList, ByteArray.size_data]
          unfold sBytes
          rw [List.length_append, h2]; omega
        have e8 := hd (show Upd [] w7 (w7.alloc (.cells #[.string tx] 9)) ∧ Blk (w7.alloc (.cells #[.string tx] 9)) w7.heap.size #[.string tx] 9 from ⟨(Upd.refl _ _).alloc _, Blk.new _ _ _⟩)
        go_wp2_with fail
        refine (S_any B k w7.heap.size [tx] v7 (l ++ (PRE ++ (TK ++ (nBytes s ++ balBytes ⟨cc, nn⟩)))) _ (HW7.out.later e8.out.1) (by simpa using e8.out.2) (by simp only [List.length_append, List.flatMap_cons, List.flatMap_nil, List.append_nil]; omega) (by have := e8.out.1.size; omega)).mono ?_
        rintro x w8 ⟨rfl, v8, hw8, hup8⟩
        have hup8 := WrUp.pre e8.out.1 hup8
        have HA8 := hd (HA7.out.wr HW7.out hup8)
        have HW8 := hd (show WrAt B w8 k v8 (l ++ (PRE ++ (TK ++ entBytes ⟨s, ⟨cc, nn⟩, tx⟩))) by rw [← entry_bytes]; simpa [List.append_assoc] using hw8)
        have HUP8 := hd (HUP7.out.trans hup8)
        clear hw8 hup8 hc5 e8
        go_wp2_with fail
        go_roundw
        case rel => exact ⟨t + 1, v8, by go_num, by omega, by rw [HTK.out]; exact HW8.out, HUP8.out, HA8.out⟩
        case measure => simp [intOf]; omega
      · obtain rfl : t = d.list.length := by omega
        rw [List.take_length] at HW3
        have hc := HA3.out.blk.cell
        simp only [AccS.cells] at hc
        have hfl := HEL.out d.list.length
        rw [List.take_length] at hfl
        have HN1 := hd (show ∀ W ka, Upd [] wr W → Blk W ka #[.int .i64 d.node, .int .i64 d.til] 3 → Calls Try.prog 57 #[.pointer (some ⟨k, 0, none⟩), .slice (some ⟨ka, 0, none⟩) 2 2] W fun e w' => e = .returned (.pointer (some ⟨k, 0, none⟩)) ∧ ∃ v', WrAt B w' k v' (l ++ d.bytes) ∧ WrUp k v v' w w' from fun W ka hu hk =>
          (N_any B k ka [d.node, d.til] v3 (l ++ (PRE ++ d.list.flatMap entBytes)) W (HW3.out.later hu) (by simpa using hk) (by intro x hx; simp at hx; omega) (by simp only [List.length_append, List.length_cons, List.length_nil]; omega) (by have := HUP3.out.upd.size; have := hu.size; omega)).mono (by
            rintro e w' ⟨rfl, v', hw', hup⟩
            exact ⟨rfl, v', by rw [HBY.out]; simpa [List.append_assoc] using hw', HUP3.out.trans (WrUp.pre hu hup)⟩))
        go_wp2_with fail
        go_region_with ((with_reducible refine (HN1.out _ _ (by repeat (first | with_reducible exact Upd.refl _ _ | with_reducible refine Upd.drew ?_ | with_reducible refine Upd.alloc ?_ _)) (by repeat (first | with_reducible exact Blk.new _ _ _ | with_reducible refine Blk.drew ?_ | with_reducible refine Blk.alloc ?_ _))).mono ?_); rintro x w2 ⟨rfl, v2, hw2, hup2⟩; have HW2 := hd hw2; have HUP2 := hd hup2; clear hw2 hup2)
        all_goals
          go_wp2_with fail
          go_end0
          first
          | exact ⟨rfl, v2, HW2.out, HUP2.out⟩
          | exact ⟨rfl, v2, HW2.out.later ((Upd.refl _ _).drew), HUP2.out.later (M := []) ((Upd.refl _ _).drew) (by simp)⟩
end Go.Proofs.Ytfhmdeamhmjddaa

/-
  code.Reader.Err and Left, ballot.Get and accept.Get, walked. Condition: texts of sizes that there are.
-/
set_option linter.unusedVariables false
set_option linter.unusedSimpArgs false
set_option maxRecDepth 100000
namespace Go.Proofs.Ytfhmdeamhmjddaa
open Go.RowKit

theorem err_rd (r : RdS) (k : Nat) (w : World) (h : RdAt w k r) : Calls Try.prog 32 #[.pointer (some ⟨k, 0, none⟩)] w fun x w' => x = .returned (.int .i64 r.err) ∧ w = w' := by
  have hc := h.cell
  clear h
  go_enter Try.func32, Try.ntmps32
  go_wp2_with fail
  go_ret
  exact ⟨rfl, rfl⟩
theorem left_rd (r : RdS) (k : Nat) (w : World) (h : RdAt w k r) : Calls Try.prog 33 #[.pointer (some ⟨k, 0, none⟩)] w fun x w' => x = .returned (.int .i64 r.left.length) ∧ w = w' := by
  have hc := h.cell
  clear h
  go_enter Try.func33, Try.ntmps33
  go_wp2_with fail
  go_ret
  exact ⟨rfl, rfl⟩
theorem set2 {w : World} {k T : Nat} {a0 a1 : Value} (h : Blk w k #[a0, a1] T) (v0 v1 : Value) :
    ∃ W, ((w.setCell ⟨k, 0, none⟩ v0).setCell ⟨k, 1, none⟩ v1) = W ∧ Upd [k] w W ∧ Blk W k #[v0, v1] T := by
  have h0 : Blk _ k #[v0, a1] T := h.set 0 v0
  have h1 : Blk _ k #[v0, v1] T := h0.set 1 v1
  have hx := Upd.refl [k] w
  exact ⟨_, rfl, (by repeat (first | with_reducible exact hx | with_reducible exact Upd.refl _ _ | with_reducible refine Upd.alloc ?_ _ | with_reducible refine Upd.drew ?_ | with_reducible refine Upd.setCell ?_ (by first | (simp; done) | (simp; omega)) _)), h1⟩
theorem bal_left (r : RdS) : r.bal.2.left.length ≤ r.left.length := by
  have h1 := U_left r
  have h2 := N_left r.U.2 11
  unfold RdS.bal
  simp only
  split
  · rw [fail_left]; omega
  · omega

set_option maxHeartbeats 4000000 in
theorem bget_any (r : RdS) (k : Nat) (w : World) (h : RdAt w k r) (hl : r.left.length ≤ 1099511627776) :
    Calls Try.prog 62 #[.pointer (some ⟨k, 0, none⟩)] w fun x w' => x = .returned (.agg #[.int .u64 r.bal.1.c, .int .i64 r.bal.1.n]) ∧ Upd [k] w w' ∧ RdAt w' k r.bal.2 := by
  have hul := U_left r
  have HX := hd (show r.bal = (if (if r.U.1 = 0 ∧ 0 < (r.U.2.N 11).1 then (r.U.2.N 11).2.fail 4 else (r.U.2.N 11).2).err = 0 then ⟨r.U.1, (r.U.2.N 11).1⟩ else ⟨0, 0⟩, if r.U.1 = 0 ∧ 0 < (r.U.2.N 11).1 then (r.U.2.N 11).2.fail 4 else (r.U.2.N 11).2) from rfl)
  have HU := hd (U_rd r k w h hl)
  have HN := hd (fun W (h : RdAt W k r.U.2) => N_rd r.U.2 11 k W h (by omega) (by decide) (by decide))
  have HFA := hd (fun W (h : RdAt W k (r.U.2.N 11).2) => fail_rd (r.U.2.N 11).2 4 k W h)
  have hnr := N_rng r.U.2 11 (by decide)
  have hkl := h.lt
  have e1 : ∃ W, w.alloc (.cells #[.int .u64 0, .int .i64 0] 35) = W ∧ Upd [] w W ∧ Blk W w.heap.size #[.int .u64 0, .int .i64 0] 35 := ⟨_, rfl, (Upd.refl _ _).alloc _, Blk.new _ _ _⟩
  have H := hd h
  have HUW := hd (fun W (h : RdAt W k r) => U_rd r k W h hl)
  clear h HU hul
  generalize r.bal = R at *
  generalize r.U.2.N 11 = N at *
  generalize r.U = U at *
  obtain ⟨uv, q1⟩ := U
  obtain ⟨nv, q2⟩ := N
  simp only at HX HN HFA hnr HUW
  go_enter Try.func62, Try.ntmps62
  go_upto_region 1 with fail
  obtain ⟨W, hW, hu, hB⟩ := e1
  rw [hW]
  clear hW
  have HB := hd hB
  have HU0 := hd hu
  have hR := H.out.upd hu (by simp)
  have HR := hd hR
  have hs0 := hu.size
  have hbl := hB.lt
  clear hB hu hR
  go_wp2_with fail
  refine (HUW.out W HR.out).mono ?_
  rintro x w1 ⟨rfl, hu1, hr1⟩
  have e3 : ∃ W2 k3, w1.heap.size = k3 ∧ w1.alloc (.cells #[.int .u64 uv, .int .i64 0] 35) = W2 ∧ Upd [] w1 W2 ∧ Blk W2 k3 #[.int .u64 uv, .int .i64 0] 35 := ⟨_, _, rfl, rfl, (Upd.refl _ _).alloc _, Blk.new _ _ _⟩
  have HB1 := hd (HB.out.upd hu1 (by simp; omega))
  have HU1 := hd ((HU0.out.mono (by simp)).trans hu1)
  have HR1 := hd hr1
  have hs1 := hu1.size
  clear hu1 hr1
  go_upto_region 2 with fail
  obtain ⟨W2, k3, hk3, hW2, hu2, hD⟩ := e3
  rw [hW2, hk3]
  have hkk : w.heap.size < k3 := by omega
  clear hW2 hk3
  have HB2 := hd (HB1.out.upd hu2 (by simp))
  have HR2 := hd (HR1.out.upd hu2 (by simp))
  have HU2 := hd (HU1.out.trans (hu2.mono (by simp)))
  have HD2 := hd hD
  clear hu2 hD
  go_wp2_with fail
  refine (HN.out W2 HR2.out).mono ?_
  rintro x w3 ⟨rfl, hu3, hr3⟩
  have hD3 := HD2.out.upd hu3 (by simp; omega)
  have hdc := hD3.cell
  have hdz := hD3.frozen
  have e4 : ∃ W4, w3.setCell ⟨k3, 1, none⟩ (.int .i64 nv) = W4 ∧ Upd [k] w W4 ∧ Blk W4 k3 #[.int .u64 uv, .int .i64 nv] 35 ∧ Blk W4 w.heap.size #[.int .u64 0, .int .i64 0] 35 ∧ RdAt W4 k q2 :=
    ⟨_, rfl, (HU2.out.trans hu3).trans' ((Upd.refl [k3] _).setCell (by simp) _) (by intro i hi; simp at hi; omega), hD3.set 1 _, (HB2.out.upd hu3 (by simp; omega)).set_other (by simp; omega) _, Blk.set_other hr3 (by simp; omega) _⟩
  clear hu3 hr3 hD3
  go_upto_region 3 with fail
  obtain ⟨W4, hW4, hu4, hD4, hB4, hR4⟩ := e4
  rw [hW4]
  clear hW4 hdc hdz
  have hdc := hD4.cell
  have HD4 := hd hD4
  have HB4 := hd hB4
  have HR4 := hd hR4
  have HU4 := hd hu4
  clear hu4 hD4 hB4 hR4
  go_cut [17] (fun s17 wx => s17 = .bool (decide (uv = 0 ∧ 0 < nv)) ∧ wx = W4)
  case first =>
    by_cases h1 : uv = 0
    · have h1' : ((uv : Int) == 0) = true := by simp [h1]
      by_cases h2 : 0 < nv
      · have HC := hd (show decide (uv = 0 ∧ 0 < nv) = true by simp [h1, h2])
        clear h1
        go_wp2_with fail
        go_meet
        case rel => rw [HC.out]; exact ⟨rfl, rfl⟩
      · have HC := hd (show decide (uv = 0 ∧ 0 < nv) = false by simp [h2])
        clear h1
        go_wp2_with fail
        go_meet
        case rel => rw [HC.out]; exact ⟨rfl, rfl⟩
    · have h1' : ((uv : Int) == 0) = false := by simp; omega
      have HC := hd (show decide (uv = 0 ∧ 0 < nv) = false by simp [h1])
      clear h1
      go_wp2_with fail
      go_meet
      case rel => rw [HC.out]; exact ⟨rfl, rfl⟩
  case rest =>
    obtain ⟨rfl, rfl⟩ := hcut
    clear hdc
    go_upto_if 17 with fail
    go_cut [] (fun wx => ∃ q, Hd (q = if uv = 0 ∧ 0 < nv then q2.fail 4 else q2) ∧ Upd [k] w wx ∧ Blk wx k3 #[.int .u64 uv, .int .i64 nv] 35 ∧ Blk wx w.heap.size #[.int .u64 0, .int .i64 0] 35 ∧ RdAt wx k q)
    case first =>
      by_cases hc : uv = 0 ∧ 0 < nv
      · have HC := hd (show decide (uv = 0 ∧ 0 < nv) = true by simpa using hc)
        have HI := hd (show q2.fail 4 = if uv = 0 ∧ 0 < nv then q2.fail 4 else q2 from (if_pos hc).symm)
        rw [HC.out]
        clear hc
        go_wp2_with fail
        refine (HFA.out wc HR4.out).mono ?_
        rintro x w5 ⟨rfl, hu5, hr5⟩
        have HU5 := hd hu5
        have HR5 := hd hr5
        clear hu5 hr5
        go_wp2_with fail
        go_meet
        case rel => exact ⟨_, HI, HU4.out.trans HU5.out, HD4.out.upd HU5.out (by simp; omega), HB4.out.upd HU5.out (by simp; omega), HR5.out⟩
      · have HC := hd (show decide (uv = 0 ∧ 0 < nv) = false by simpa using hc)
        have HI := hd (show q2 = if uv = 0 ∧ 0 < nv then q2.fail 4 else q2 from (if_neg hc).symm)
        rw [HC.out]
        clear hc
        go_wp2_with fail
        go_meet
        case rel => exact ⟨_, HI, HU4.out, HD4.out, HB4.out, HR4.out⟩
    case rest =>
      obtain ⟨q, HQ, hu5, hd5, hb5, hr5⟩ := hcut
      rw [← HQ.out] at HX
      have HR5 := hd hr5
      have HU5 := hd hu5
      have HB5 := hd hb5
      have HD5 := hd hd5
      clear hu5 hd5 hb5 hr5 HQ HU4 HD4 HB4 HR4
      go_wp2_with fail
      refine (err_rd q k wc HR5.out).mono ?_
      rintro x w6 ⟨rfl, rfl⟩
      have hbq := HB5.out.cell
      have hbz := HB5.out.frozen
      have hdc := HD5.out.cell
      by_cases he : q.err = 0
      · have he' : (q.err != 0) = false := by simp [he]
        have HY := hd (show R = (⟨uv, nv⟩, q) by rw [HX.out, if_pos he])
        clear he
        obtain ⟨W8, e8, u8, b8⟩ := set2 HB5.out (.int .u64 uv) (.int .i64 nv)
        have HE := hd e8
        have HU8 := hd (HU5.out.trans' u8 (by intro i hi; simp at hi; omega))
        have HB8 := hd b8
        have HR8 := hd (HR5.out.upd u8 (by simp; omega))
        clear e8 u8 b8
        go_wp2_with fail
        rw [HE.out]
        have hbc := HB8.out.cell
        refine bodyPost_ret (v := .agg #[.int .u64 uv, .int .i64 nv]) (by simp [results, Try.results62, go_sem, hbc]) rfl ?_
        rw [HY.out]
        exact ⟨rfl, HU8.out, HR8.out⟩
      · have he' : (q.err != 0) = true := by simpa using he
        have HY := hd (show R = (⟨0, 0⟩, q) by rw [HX.out, if_neg he])
        clear he
        obtain ⟨W8, e8, u8, b8⟩ := set2 HB5.out (.int .u64 0) (.int .i64 0)
        have HE := hd e8
        have HU8 := hd (HU5.out.trans' u8 (by intro i hi; simp at hi; omega))
        have HB8 := hd b8
        have HR8 := hd (HR5.out.upd u8 (by simp; omega))
        clear e8 u8 b8
        go_wp2_with fail
        rw [HE.out]
        have hbc := HB8.out.cell
        refine bodyPost_ret (v := .agg #[.int .u64 0, .int .i64 0]) (by simp [results, Try.results62, go_sem, hbc]) rfl ?_
        rw [HY.out]
        exact ⟨rfl, HU8.out, HR8.out⟩
end Go.Proofs.Ytfhmdeamhmjddaa
