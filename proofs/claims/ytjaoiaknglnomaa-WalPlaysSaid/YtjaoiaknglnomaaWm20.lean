/-
  A log's calls, told of a log under way. Conditions: sizes that there are.
-/
import Derived.Test.YtjaoiaknglnomaaWm19
import Derived.Test.YtjaoiaknglnomaaWm17
set_option linter.unusedVariables false
set_option linter.unusedSimpArgs false
namespace Go.Proofs.Ytjaoiaknglnomaa
open Go.RowKit

/-- Numbers that there may be. -/
def Bnd (g : Nat) (L : List (List UInt8)) (v : Nat) : Prop := g ≤ 1000000 ∧ v ≤ 1000000 ∧ L.length ≤ 10000 ∧ ∀ t ∈ L, t.length ≤ 262144
theorem live_now {C : Nat} {R : Int} {d : DiskS} {g n : Nat} {L : List (List UInt8)} {k v : Nat} (h : Live C R d g n L k v) : (d.get (g % 2)).now.size = (encL g L).length := by
  obtain ⟨y, a, b, M, m, j, hd, h0, h1, hy, r⟩ := h
  rw [hd, dk_log]
  simp [txt_size]
theorem wappend_live {C : Nat} {R : Int} {d : DiskS} {g n : Nat} {L : List (List UInt8)} {k v : Nat} (hc : Caps C R) (hCb : C ≤ 1000000) (h : Live C R d g n L k v) (hb : Bnd g L v) (s : List UInt8) (hs : s.length ≤ 262144) (hfit : (encL g (L ++ [s])).length ≤ C) (kl kc bd : Nat) (w : World)
    (hD : DiskAt w bd d) (hL : LogAt w kl kc bd (lgOf g n L)) (hC : CellAt w kc bd 2 v) :
    Calls Try.prog 36 #[.pointer (some ⟨kl, 0, none⟩), .string (txt s)] w fun x w' => ∃ d', d'.fail ≤ d.fail ∧ Upd [bd, kl] w w' ∧ DiskAt w' bd d' ∧ CellAt w' kc bd 2 v ∧
      ((x = .returned (.int .i64 0) ∧ LogAt w' kl kc bd (lgOf g n (L ++ [s])) ∧ Live C R d' g n (L ++ [s]) k v) ∨ (d.fail ≠ 0 ∧ x = .returned (.int .i64 8) ∧ LogAt w' kl kc bd (lgOf g n L) ∧ Live C R d' g n L k v)) := by
  obtain ⟨b1, b2, b3, b4⟩ := hb
  have hn := live_n (J := []) h
  have hf := (base_safe hc b4 h).1
  obtain ⟨d', hd', hr⟩ := append_live hc h s hs hfit
  have hne2 : kc ≠ bd := blk_ne hC hD (by decide)
  have hne3 : kc ≠ kl := blk_ne hC hL (by decide)
  refine (wappend_any d (lgOf g n L) s kl kc bd w hD hL hf (show g < _ by omega) (by omega) (by rw [show (lgOf g n L).gen = g from rfl, live_now h]; omega) (show (encL g L).length ≤ _ by omega) (show L.length ≤ _ by omega)).mono ?_
  rintro x w' ⟨hx, hu, hd, hl⟩
  have hc2 := hC.upd hu (by simp [hne2, hne3])
  rcases hr with ⟨hr, hlv⟩ | ⟨hz, hr, hlv⟩
  · rw [hr] at hx hd hl
    exact ⟨d', hd', hu, hd, hc2, .inl ⟨hx, hl, hlv⟩⟩
  · rw [hr] at hx hd hl
    exact ⟨d', hd', hu, hd, hc2, .inr ⟨hz, hx, hl, hlv⟩⟩
theorem wsync_live {C : Nat} {R : Int} {d : DiskS} {g n : Nat} {L : List (List UInt8)} {k v : Nat} (hc : Caps C R) (hCb : C ≤ 1000000) (h : Live C R d g n L k v) (hb : Bnd g L v) (kl kc bd : Nat) (w : World)
    (hD : DiskAt w bd d) (hL : LogAt w kl kc bd (lgOf g n L)) (hC : CellAt w kc bd 2 v) :
    Calls Try.prog 37 #[.pointer (some ⟨kl, 0, none⟩)] w fun x w' => ∃ d', d'.fail ≤ d.fail ∧ Upd [bd, kl, kc] w w' ∧ DiskAt w' bd d' ∧
      ((x = .returned (.int .i64 0) ∧ ∃ v', v ≤ v' ∧ v' ≤ v + 1 ∧ LogAt w' kl kc bd (lgOf g (encL g L).length L) ∧ CellAt w' kc bd 2 v' ∧ Live C R d' g (encL g L).length L L.length v') ∨
       (d.fail ≠ 0 ∧ x = .returned (.int .i64 8) ∧ Safe C R d' g (v + 1) (fun X => ∃ j, k ≤ j ∧ j ≤ L.length ∧ X = L.take j))) := by
  obtain ⟨b1, b2, b3, b4⟩ := hb
  have hn := live_n (J := []) h
  have hf := (base_safe hc b4 h).1
  obtain ⟨d', hd', hr⟩ := sync_live hc b4 h (by omega)
  refine (wsync_any d (lgOf g n L) v kl kc bd w hD hL hC hf (show g < _ by omega) (show (encL g L).length ≤ _ by omega) (by omega)).mono ?_
  rintro x w' ⟨hx, hu, hd, hl, hcc⟩
  rcases hr with ⟨v', h1, h2, hr, hlv⟩ | ⟨hz, l', v', hr, hlv⟩
  · rw [hr] at hx hd hl hcc
    exact ⟨d', hd', hu, hd, .inl ⟨hx, v', h1, h2, hl, hcc, hlv⟩⟩
  · rw [hr] at hx hd hl hcc
    exact ⟨d', hd', hu, hd, .inr ⟨hz, hx, hlv⟩⟩
theorem wrewrite_live {C : Nat} {R : Int} {d : DiskS} {g n : Nat} {L : List (List UInt8)} {k v : Nat} (hc : Caps C R) (hCb : C ≤ 1000000) (h : Live C R d g n L k v) (hb : Bnd g L v) (L' : List (List UInt8)) (hl' : ∀ t ∈ L', t.length ≤ 262144) (hn' : L'.length ≤ 10000) (hfit : (encL (g + 1) L').length ≤ C) (vl : Value) (Bs kl kc bd : Nat) (w : World)
    (hD : DiskAt w bd d) (hL : LogAt w kl kc bd (lgOf g n L)) (hC : CellAt w kc bd 2 v) (hv : StrRow Bs w vl L') :
    Calls Try.prog 65 #[.pointer (some ⟨kl, 0, none⟩), vl] w fun x w' => ∃ d', d'.fail ≤ d.fail ∧ Upd [bd, kl, kc] w w' ∧ DiskAt w' bd d' ∧
      ((x = .returned (.int .i64 0) ∧ LogAt w' kl kc bd (lgOf (g + 1) (encL (g + 1) L').length L') ∧ CellAt w' kc bd 2 (v + 1) ∧ Live C R d' (g + 1) (encL (g + 1) L').length L' L'.length (v + 1)) ∨
       (d.fail ≠ 0 ∧ x = .returned (.int .i64 8) ∧ Safe C R d' (g + 1) (v + 1) (fun X => X = L' ∨ ∃ j, k ≤ j ∧ j ≤ L.length ∧ X = L.take j))) := by
  obtain ⟨b1, b2, b3, b4⟩ := hb
  have hn := live_n (J := []) h
  have hf := (base_safe hc b4 h).1
  obtain ⟨d', hd', hr⟩ := rewrite_base hc b4 h (lgOf g n L) rfl L' hl' hfit (by omega)
  refine (wrewrite_any d (lgOf g n L) v L' vl Bs kl kc bd w hD hL hC hv hf (show g + 1 < _ by omega) (by omega) hl' (by omega) (show (encL (g + 1) L').length ≤ _ by omega)).mono ?_
  rintro x w' ⟨hx, hu, hd, hl, hcc⟩
  rcases hr with ⟨hr, hlv⟩ | ⟨hz, l', v', hr, hlv⟩
  · rw [hr] at hx hd hl hcc
    exact ⟨d', hd', hu, hd, .inl ⟨hx, hl, hcc, hlv⟩⟩
  · rw [hr] at hx hd hl hcc
    exact ⟨d', hd', hu, hd, .inr ⟨hz, hx, hlv⟩⟩
/-- A log that Open hands back. -/
def Opened (B bd : Nat) (g n : Nat) (L : List (List UInt8)) (v : Nat) (x : Ending) (w : World) : Prop :=
  ∃ kl kc vl, x = .returned (.tuple #[.pointer (some ⟨kl, 0, none⟩), vl, .int .i64 0]) ∧ B ≤ kl ∧ B ≤ kc ∧ LogAt w kl kc bd (lgOf g n L) ∧ CellAt w kc bd 2 v ∧ StrRow B w vl L
theorem wopen_live {C : Nat} {R : Int} {d : DiskS} {g n : Nat} {L : List (List UInt8)} {k v : Nat} (hc : Caps C R) (hCb : C ≤ 1000000) (h : Live C R d g n L k v) (hb : Bnd g L v) (hfit : (encL (g + 1) L).length ≤ 1000000) (bd : Nat) (w : World) (hD : DiskAt w bd d) :
    Calls Try.prog 35 #[.pointer (some ⟨bd, 0, none⟩)] w fun x w' => Opened w.heap.size bd g n L v x w' ∧ Upd [bd] w w' ∧ DiskAt w' bd d := by
  obtain ⟨b1, b2, b3, b4⟩ := hb
  have hn := live_n (J := []) h
  have hf := (base_safe hc b4 h).1
  obtain ⟨ho, hw⟩ := open_live hCb h (by omega) (by omega)
  refine (wopen_any d g n L [] bd w hD hf (by omega) ho b4 (by decide) (by omega) (base_met h) (by omega) (by rw [List.append_nil]; omega)).mono ?_
  rintro x w' ⟨hx, hu, hd⟩
  rw [hw] at hx hd
  obtain ⟨kl, kc, vl, hx, h1, h2, h3, h4, h5⟩ := hx.1 rfl
  exact ⟨⟨kl, kc, vl, hx, h1, h2, h3, h4, h5⟩, hu, hd⟩
theorem wopen_rest {C : Nat} {R : Int} {d : DiskS} {g n : Nat} {L : List (List UInt8)} {J : List UInt8} {k v : Nat} (hc : Caps C R) (hCb : C ≤ 1000000) (h : Rest C R d g n L J k v) (hb : Bnd g L v) (hfit : (encL (g + 1) L).length ≤ C) (bd : Nat) (w : World) (hD : DiskAt w bd d) :
    Calls Try.prog 35 #[.pointer (some ⟨bd, 0, none⟩)] w fun x w' => ∃ d', d'.fail ≤ d.fail ∧ Upd [bd] w w' ∧ DiskAt w' bd d' ∧
      ((∃ g' n' v', g' ≤ g + 1 ∧ v' ≤ v + 1 ∧ Opened w.heap.size bd g' n' L v' x w' ∧ Live C R d' g' n' L L.length v') ∨
       (d.fail ≠ 0 ∧ x = .returned (.tuple #[.pointer none, .slice none 0 0, .int .i64 8]) ∧ Safe C R d' (g + 1) (v + 1) (fun X => X = L))) := by
  obtain ⟨b1, b2, b3, b4⟩ := hb
  obtain ⟨hf, _, hJC, hJ⟩ := rest_fine hc h
  obtain ⟨ho, d', hd', hr⟩ := open_rest hc hCb b4 h hfit (by omega) (by omega)
  refine (wopen_any d g n L J bd w hD hf (by omega) ho b4 hJ.all (by omega) (rest_met h) (by omega) (by omega)).mono ?_
  rintro x w' ⟨hx, hu, hd⟩
  rcases hr with ⟨g', n', v', h1, h2, hr, hlv⟩ | ⟨hz, l', v', hr, hlv⟩
  · rw [hr] at hx hd
    obtain ⟨kl, kc, vl, hx, p1, p2, p3, p4, p5⟩ := hx.1 rfl
    exact ⟨d', hd', hu, hd, .inl ⟨g', n', v', h1, h2, ⟨kl, kc, vl, hx, p1, p2, p3, p4, p5⟩, hlv⟩⟩
  · rw [hr] at hx hd
    exact ⟨d', hd', hu, hd, .inr ⟨hz, hx.2 (show ¬ ((8 : Int) = 0) by decide), hlv⟩⟩
end Go.Proofs.Ytjaoiaknglnomaa

/-
  chatelainelaw13.Same and cut, walked. Conditions: lists of sizes that there are.
-/
set_option linter.unusedVariables false
set_option linter.unusedSimpArgs false
set_option maxRecDepth 100000
namespace Go.Proofs.Ytjaoiaknglnomaa
open Go.RowKit

/-- A slice of texts. -/
def TxsAt (w : World) (v : Value) (l : List (List UInt8)) : Prop :=
  ∃ (a : Option Addr) (c : Nat), v = .slice a l.length c ∧ l.length ≤ c ∧ c ≤ 9223372036854775807 ∧ (0 < l.length → ∃ k o, a = some ⟨k, o, none⟩ ∧ k < w.heap.size ∧ ∀ i (h : i < l.length), w.cell? ⟨k, o + i, none⟩ = some (.string (txt l[i])))
theorem TxsAt.upd {w w' : World} {v : Value} {l : List (List UInt8)} (h : TxsAt w v l) (hu : Upd [] w w') : TxsAt w' v l := by
  obtain ⟨a, c, h1, h2, h3, h4⟩ := h
  refine ⟨a, c, h1, h2, h3, fun h0 => ?_⟩
  obtain ⟨k, o, e, hk, hc⟩ := h4 h0
  exact ⟨k, o, e, Nat.lt_of_lt_of_le hk hu.size, fun i hi => by rw [← hc i hi]; exact World.cell?_of_block (hu.block k hk (by simp))⟩
theorem row_strs {B : Nat} {w : World} {v : Value} {l : List (List UInt8)} (h : StrRow B w v l) : TxsAt w v l := by
  obtain ⟨a, cap, rfl, h1, h2, h3⟩ := own_open h
  refine ⟨a, cap, rfl, h1, by unfold maxLen at h2; omega, fun h0 => ?_⟩
  obtain ⟨g, rfl, hg, hgl, hc, -⟩ := h3 h0
  refine ⟨g, 0, rfl, hgl, fun i hi => ?_⟩
  rw [Nat.zero_add, hc i (by omega)]
  simp [strVals, hi]
theorem TxsAt.take {w : World} {a : Option Addr} {n c : Nat} {l : List (List UInt8)} (h : TxsAt w (.slice a n c) l) (m : Nat) (hm : m ≤ l.length) : TxsAt w (.slice a m c) (l.take m) := by
  obtain ⟨a', c', h1, h2, h3, h4⟩ := h
  simp only [Value.slice.injEq] at h1
  obtain ⟨rfl, rfl, rfl⟩ := h1
  have hl : (l.take m).length = m := by rw [List.length_take]; omega
  refine ⟨a, c, by rw [hl], by omega, h3, fun h0 => ?_⟩
  obtain ⟨k, o, e, hk, hc⟩ := h4 (by omega)
  exact ⟨k, o, e, hk, fun i hi => by rw [hc i (by omega)]; simp⟩

set_option maxHeartbeats 2000000 in
theorem wsame_any (a b : List (List UInt8)) (va vb : Value) (w : World) (ha : TxsAt w va a) (hb : TxsAt w vb b) :
    Calls Try.prog 42 #[va, vb] w fun x w' => x = .returned (.bool (decide (a = b))) ∧ Upd [] w w' := by
  have HA := hd ha
  have HB := hd hb
  obtain ⟨aa, ca, rfl, ha1, ha2, ha3⟩ := ha
  obtain ⟨ab, cb, rfl, hb1, hb2, hb3⟩ := hb
  have HA3 := hd ha3
  have HB3 := hd hb3
  clear ha3 hb3
  go_enter Try.func42, Try.ntmps42
  by_cases hl : a.length = b.length
  · have hl' : ((a.length : Int) != (b.length : Int)) = false := by simp [hl]
    have HL := hd hl
    clear hl
    go_wp2_with fail
    go_loopw [13] (fun c wr => ∃ t : Nat, c = .int .i64 t ∧ t ≤ a.length ∧ a.take t = b.take t ∧ Upd [] w wr) (fun c _ => a.length - (intOf c).toNat)
    case atStart => exact ⟨0, rfl, by omega, rfl, Upd.refl _ _⟩
    case round =>
      obtain ⟨t, rfl, ht, heq, hu⟩ := hrel
      have HU := hd hu
      have HEQ := hd heq
      clear hu heq
      by_cases htn : t < a.length
      · have htn' : (t : Int) < (a.length : Int) := by omega
        have hbn : t < b.length := by have := HL.out; omega
        have hbn' : (t : Int) < (b.length : Int) := by omega
        obtain ⟨ka, oa, rfl, hka, hca⟩ := HA3.out (by omega)
        obtain ⟨kb, ob, rfl, hkb, hcb⟩ := HB3.out (by omega)
        have c0 : ∀ W, Upd [] w W → W.cell? ⟨ka, oa + t, none⟩ = some (.string (txt a[t])) := fun W hu => by rw [← hca t htn]; exact World.cell?_of_block (hu.block ka hka (by simp))
        have c1 : ∀ W, Upd [] w W → W.cell? ⟨kb, ob + t, none⟩ = some (.string (txt b[t])) := fun W hu => by rw [← hcb t hbn]; exact World.cell?_of_block (hu.block kb hkb (by simp))
        have d0 := c0 _ HU.out
        have d1 := c1 _ HU.out
        have d2 := c0 _ HU.out.drew
        have d3 := c1 _ HU.out.drew
        have hka' : ka < wr.heap.size := by have := HU.out.size; omega
        have hkb' : kb < wr.heap.size := by have := HU.out.size; omega
        have HT := hd (show a.take (t + 1) = a.take t ++ [a[t]] ∧ b.take (t + 1) = b.take t ++ [b[t]] from ⟨List.take_succ_eq_append_getElem htn, List.take_succ_eq_append_getElem hbn⟩)
        have HNE := hd (show a[t] ≠ b[t] → a ≠ b from fun h e => h (by subst e; rfl))
        clear c0 c1 hca hcb
        generalize a[t] = x at *
        generalize b[t] = y at *
        by_cases hxy : x = y
        · subst hxy
          go_upto_region 6 with fail
          go_region_with fail
          all_goals
            go_wp2_with fail
            go_roundw
            case rel => exact ⟨t + 1, by go_num, by omega, by rw [HT.out.1, HT.out.2, HEQ.out], HU.out.drew⟩
            case measure => simp [intOf]; omega
        · have HN := hd (HNE.out hxy)
          have hxs : ((txt x).toList == (txt y).toList) = false := by simpa [txt_list] using hxy
          clear hxy
          go_upto_region 6 with fail
          go_region_with fail
          all_goals
            go_wp2_with fail
            go_ret
            rw [decide_eq_false HN.out]
            exact ⟨rfl, HU.out.drew⟩
      · have HE := hd (show decide (a = b) = true by
          have h := HEQ.out
          rw [List.take_of_length_le (by omega), List.take_of_length_le (by have := HL.out; omega)] at h
          simpa using h)
        go_wp2_with fail
        go_ret
        rw [HE.out]
        exact ⟨rfl, HU.out⟩
  · have hl' : ((a.length : Int) != (b.length : Int)) = true := by rw [bne_iff_ne]; omega
    have HD := hd (show decide (a = b) = false by
      rw [decide_eq_false_iff_not]
      intro e
      exact hl (by rw [e]))
    clear hl
    go_wp2_with fail
    go_ret
    rw [HD.out]
    exact ⟨rfl, Upd.refl _ _⟩
end Go.Proofs.Ytjaoiaknglnomaa

/-
  chatelainelaw13.cut, walked: at most six texts, of at most 40 bytes. Conditions: lists of sizes that there are.
-/
set_option linter.unusedVariables false
set_option linter.unusedSimpArgs false
set_option maxRecDepth 100000
namespace Go.Proofs.Ytjaoiaknglnomaa
open Go.RowKit

/-- What cut makes of a list. -/
def cutL6 (l : List (List UInt8)) : List (List UInt8) := (l.take 6).map fun t => t.take 40
theorem cutL6_at (l : List (List UInt8)) (t : Nat) (h : t < l.length) : (l.take (t + 1)).map (fun t => t.take 40) = (l.take t).map (fun t => t.take 40) ++ [l[t].take 40] := by
  rw [List.take_succ_eq_append_getElem h, List.map_append]; rfl

set_option maxHeartbeats 2000000 in
theorem wcut_any (l : List (List UInt8)) (v : Value) (w : World) (hv : TxsAt w v l) (hs : ∀ t ∈ l, t.length ≤ 9223372036854775807) :
    Calls Try.prog 68 #[v] w fun x w' => ∃ v', x = .returned v' ∧ Upd [] w w' ∧ StrRow w.heap.size w' v' (cutL6 l) := by
  obtain ⟨a, c, rfl, h1, h2, h3⟩ := hv
  have HV := hd h3
  have HS := hd hs
  clear h3 hs
  go_enter Try.func68, Try.ntmps68
  go_wp2_with fail
  go_loopw [3, 4] (fun o c wr => ∃ t : Nat, c = .int .i64 t ∧ t ≤ l.length ∧ t ≤ 6 ∧ Upd [] w wr ∧ StrRow w.heap.size wr o ((l.take t).map fun t => t.take 40)) (fun _ c _ => 6 - (intOf c).toNat)
  case atStart => exact ⟨0, rfl, by omega, by omega, Upd.refl _ _, World.ownsRow_nil _ _ _ _⟩
  case round =>
    obtain ⟨t, rfl, ht, ht6, hu, hr⟩ := hrel
    have HU := hd hu
    have HR := hd hr
    by_cases htn : t < l.length
    · have htn' : (t : Int) < (l.length : Int) := by omega
      by_cases h6 : t < 6
      · have h6' : (t : Int) < 6 := by omega
        obtain ⟨k, o, rfl, hk, hc⟩ := HV.out (by omega)
        have c0 : wr.cell? ⟨k, o + t, none⟩ = some (.string (txt l[t])) := by rw [← hc t htn]; exact World.cell?_of_block (hu.block k hk (by simp))
        have hk' : k < wr.heap.size := by have := hu.size; omega
        have HCT := hd (fun W => cut_any l[t] 40 W (HS.out _ (List.getElem_mem _)) (by decide))
        have HTM := hd (cutL6_at l t htn)
        have hml : ((l.take t).map fun t => t.take 40).length = t := by rw [List.length_map, List.length_take]; omega
        have hw := hu.size
        clear hc hu hr
        generalize l[t].take 40 = X at *
        generalize ((l.take t).map fun t => t.take 40) = L at *
        go_wp2_with fail
        refine (HCT.out _).mono ?_
        rintro e w2 ⟨rfl, rfl⟩
        go_wp2_with (at_builtin; refine strAppend rfl (.tmp 15) (.tmp 21) rfl w.heap.size _ L X rfl (own_upd (L := []) HR.out ((Upd.refl _ _).alloc _) (by simp)) wr.heap.size rfl (Blk.new _ _ _) (by omega) (by simp; omega) ?_)
        intro v' w9 hown hgr hblk
        have HU9 := hd ((HU.out.alloc (.cells #[.string (txt X)] 9)).trans' hgr (fun i hi => .inr (own_base_le HR.out i (by simpa using hi))))
        have HS9 := hd hown
        clear hown hgr hblk
        go_wp2_with fail
        go_roundw
        case rel => exact ⟨t + 1, by go_num, by omega, by omega, HU9.out, by rw [HTM.out]; exact HS9.out⟩
        case measure => simp [intOf]; omega
      · obtain rfl : t = 6 := by omega
        go_wp2_with fail
        go_ret
        exact ⟨_, rfl, HU.out, HR.out⟩
    · have hl : l.take t = l.take 6 := by rw [List.take_of_length_le (by omega), List.take_of_length_le (by omega)]
      rw [hl] at HR
      have htn' : ¬ (t : Int) < (l.length : Int) := by omega
      clear hr
      go_wp2_with fail
      go_ret
      exact ⟨_, rfl, HU.out, HR.out⟩
end Go.Proofs.Ytjaoiaknglnomaa

/-
  chatelainelaw13.run.may, walked, where it answers true. Conditions: lists of sizes that there are.
-/
set_option linter.unusedVariables false
set_option linter.unusedSimpArgs false
set_option maxRecDepth 100000
namespace Go.Proofs.Ytjaoiaknglnomaa
open Go.RowKit

/-- May a log have these records behind a crash? -/
def MayL (L : List (List UInt8)) (k : Nat) (O : List (List UInt8)) (had : Bool) (X : List (List UInt8)) : Prop := (had = true ∧ X = O) ∨ (k ≤ X.length ∧ X.length ≤ L.length ∧ X = L.take X.length)

set_option maxHeartbeats 4000000 in
theorem wmay_any (L O X : List (List UInt8)) (k : Nat) (had : Bool) (vl vo vx : Value) (Bl Bo Bx : Nat) (w : World) (hl : StrRow Bl w vl L) (ho : StrRow Bo w vo O) (hx : StrRow Bx w vx X) (hk : k ≤ 1000000) (hm : MayL L k O had X) :
    Calls Try.prog 38 #[.agg #[vl, .int .i64 k, vo, .bool had], vx] w fun x w' => x = .returned (.bool true) ∧ Upd [] w w' := by
  have HL := hd hl
  have HO := hd ho
  have HX := hd hx
  have HM := hd hm
  have hSO := fun W (hu : Upd [] w W) => wsame_any X O vx vo W ((row_strs hx).upd hu) ((row_strs ho).upd hu)
  have HSO := hd hSO
  obtain ⟨al, cl, rfl, hl1, hl2, hl3⟩ := own_open2 hl
  obtain ⟨ax, cx, rfl, hx1, hx2, -⟩ := own_open hx
  have HSL := hd (fun W (hu : Upd [] w W) (hle : X.length ≤ L.length) => wsame_any X (L.take X.length) (.slice ax X.length cx) (.slice al X.length cl) W ((row_strs hx).upd hu) (((row_strs hl).upd hu).take X.length hle))
  obtain ⟨ao, co, rfl, -⟩ := own_open ho
  have e0 : ∃ W kr, w.heap.size = kr ∧ w.alloc (.cells #[.slice al L.length cl, .int .i64 k, .slice ao O.length co, .bool had] 75) = W ∧ Upd [] w W ∧ Blk W kr #[.slice al L.length cl, .int .i64 k, .slice ao O.length co, .bool had] 75 := ⟨_, _, rfl, rfl, (Upd.refl _ _).alloc _, Blk.new _ _ _⟩
  clear hl ho hx hm hSO
  go_enter Try.func38, Try.ntmps38
  go_upto_region 1 with fail
  obtain ⟨W0, kr, hkr, hW0, hu0, hb0⟩ := e0
  rw [hW0, hkr]
  clear hW0 hkr
  have HU0 := hd hu0
  have HB0 := hd hb0
  clear hu0 hb0
  have hc := HB0.out.cell
  go_cut [12] (fun s12 wx => ∃ bb : Bool, s12 = .bool bb ∧ Upd [] w wx ∧ Upd [] W0 wx ∧ (bb = false → k ≤ X.length ∧ X.length ≤ L.length ∧ X = L.take X.length))
  case first =>
    rcases had with _ | _
    · have HH := hd (show k ≤ X.length ∧ X.length ≤ L.length ∧ X = L.take X.length by
        rcases HM.out with ⟨h, _⟩ | h
        · cases h
        · exact h)
      go_wp2_with fail
      go_meet
      case rel => exact ⟨false, rfl, HU0.out, Upd.refl _ _, fun _ => HH.out⟩
    · go_wp2_with fail
      refine (HSO.out W0 HU0.out).mono ?_
      rintro e w2 ⟨rfl, hu2⟩
      have HU2 := hd hu2
      have HH := hd (show decide (X = O) = false → k ≤ X.length ∧ X.length ≤ L.length ∧ X = L.take X.length from fun he => by
        rcases HM.out with ⟨_, h⟩ | h
        · rw [decide_eq_false_iff_not] at he; exact absurd h he
        · exact h)
      clear hu2
      generalize decide (X = O) = D at *
      go_wp2_with fail
      go_meet
      case rel => exact ⟨D, rfl, HU0.out.trans HU2.out, HU2.out, HH.out⟩
  case rest =>
    obtain ⟨bb, rfl, hu, hu', hbb⟩ := hcut
    have HU := hd hu
    have HB := hd (HB0.out.upd hu' (by simp))
    clear hc hu hu' HB0 HU0
    have hc := HB.out.cell
    rcases bb with _ | _
    · obtain ⟨h1, h2, h3⟩ := hbb rfl
      have hk1 : (k : Int) ≤ (X.length : Int) := by omega
      have hk2 : (X.length : Int) ≤ (L.length : Int) := by omega
      have hxc : X.length ≤ cl := by omega
      have HS := hd (HSL.out _ HU.out h2)
      have HD := hd (show decide (X = L.take X.length) = true by simpa using h3)
      rw [HD.out] at HS
      clear h3 HSL HSO hbb
      rcases hl3 with ⟨rfl, rfl⟩ | ⟨g, rfl⟩
      · have hx0 : X.length = 0 := by omega
        rw [hx0] at HS
        go_wp2_with fail
        refine HS.out.mono ?_
        rintro e w3 ⟨rfl, hu3⟩
        have HU3 := hd hu3
        clear hu3
        go_wp2_with fail
        go_ret
        exact ⟨rfl, HU.out.trans HU3.out⟩
      · go_wp2_with fail
        refine HS.out.mono ?_
        rintro e w3 ⟨rfl, hu3⟩
        have HU3 := hd hu3
        clear hu3
        go_wp2_with fail
        go_ret
        exact ⟨rfl, HU.out.trans HU3.out⟩
    · go_wp2_with fail
      go_ret
      exact ⟨rfl, HU.out⟩
end Go.Proofs.Ytjaoiaknglnomaa
