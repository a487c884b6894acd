/-
  The statements' own 'do' of layer 11 (chatelainelaw11.do), walked, its kind 3: Crash. Conditions: disks whose texts are of at most 2^30 bytes.
-/
import Derived.Test.YtjaoiaknglnomaaDo11b
set_option linter.unusedVariables false
set_option maxRecDepth 100000
set_option linter.unusedSimpArgs false
namespace Go.Proofs.Ytjaoiaknglnomaa
open Go.RowKit

theorem IntsAt.take {B : Nat} {w : World} {a : Option Addr} {cs : List Int} {c : Nat} (h : IntsAt B w (.slice a cs.length c) cs) (n : Nat) (hn : n ≤ cs.length) : IntsAt B w (.slice a n c) (cs.take n) := by
  obtain ⟨a', c', e, h2, h3, h4⟩ := h
  cases e
  refine ⟨a, c, by simp [Nat.min_eq_left hn], by simp; omega, h3, fun hne => ?_⟩
  obtain ⟨k, o, e, hk, hl, hc⟩ := h4 (by rintro rfl; simp at hne)
  refine ⟨k, o, e, hk, hl, fun i hi => ?_⟩
  simp only [List.length_take] at hi
  rw [hc i (by omega)]
  simp [List.getD, List.getElem?_take, show i < n by omega]

set_option maxHeartbeats 2000000 in
theorem do3 (D x : DiskS) (l v : Value) (F N : Int) (s : ByteArray) (w : World) (b B : Nat) (hD : DiskAt w b D) (hx : RefAt B w l x) (hDf : D.fine) (hDo : D.ok) (hxs : x.small) (hxo : x.ok)
    (cs : List Int) (hv : IntsAt b w v cs) (hB : B ≤ w.heap.size) (hbB : ∀ g, l.ownBlock = some g → g ≠ b) (hs : s.size ≤ 9223372036854775807) :
    Calls Try.prog 17 #[.pointer (some ⟨b, 0, none⟩), .agg #[l, .int .i64 x.room, .int .i64 x.fail], .agg #[.int .i64 3, .int .i64 F, .int .i64 N, .string s, v]] w (DoPost b B w (D.crashIt (cs.take 8)) { x.crashIt (cs.take 8) with room := x.room, fail := -1 }) := by
  have hc60 := cutS_size s 60
  obtain ⟨g, cap, rfl, hg, hgl, hcap, _, _⟩ := own_cases hx (by omega)
  have hgb := hbB g rfl
  obtain ⟨a, c, rfl, hv2, hv3, hv4⟩ := hv
  have HV := hd (show IntsAt b w (.slice a cs.length c) cs from ⟨a, c, rfl, hv2, hv3, hv4⟩)
  have HX := hd hx
  have HD := hd hD
  have hlt := hD.lt
  clear hx hD hbB
  by_cases hlen : 8 < cs.length
  · obtain ⟨kc, oc, rfl, _, _, _⟩ := hv4 (by rintro rfl; simp at hlen)
    clear hv4
    have HV8 := hd (HV.out.take 8 (by omega))
    generalize hcs8 : cs.take 8 = cs8 at *
    go_enter Try.func17, Try.ntmps17
    go_wp2_with fail
    refine (cut_any s 60 _ hs).mono ?_
    rintro e w' ⟨rfl, rfl⟩
    generalize cutS s 60 = S at *
    go_wp2_with fail
    refine (crash_any D (.slice (some ⟨kc, oc, none⟩) 8 c) cs8 _ b (by repeat (first | with_reducible exact HD.out | with_reducible refine Blk.alloc ?_ _ | with_reducible refine Blk.drew ?_ | with_reducible refine Blk.set_other ?_ (by first | (simp; done) | (simp; omega)) _ | exact HD.out)) hDf.small hDo (HV8.out.upd (L := []) ((((Upd.refl _ w).alloc _).alloc _).alloc _) (by simp))).mono ?_
    rintro e w1 ⟨rfl, hu1, hd1⟩
    have hb0 := Blk.upd (((Blk.new w _ _).alloc _).alloc _) hu1 (by simp; omega)
    have hb1 := Blk.upd ((Blk.new' (w.alloc _) _ _ (k := w.heap.size + 1) (by simp)).alloc _) hu1 (by simp; omega)
    have hb2 := Blk.upd (Blk.new' ((w.alloc _).alloc _) _ _ (k := w.heap.size + 1 + 1) (by simp)) hu1 (by simp; omega)
    have hU1 : Upd [b] w w1 := ((((Upd.refl _ w).alloc _).alloc _).alloc _).trans hu1
    have hx1 := own_upd (L := [b]) HX.out hU1 (by simpa [Value.ownBlock] using hgb)
    have hv1 := HV8.out.upd hU1 (by simp)
    have hc0 := hb0.cell
    have hc1 := hb1.cell
    have hl2 := hb2.lt
    have HB0 := hd hb0
    have HB2 := hd hb2
    have HU1 := hd hU1
    have HX1 := hd hx1
    have HV1 := hd hv1
    have HD1 := hd hd1
    have hlt1 := hd1.lt
    clear hu1 hd1 hb0 hb1 hb2 hU1 hx1 hv1
    go_wp2_with fail
    refine (crash_ref x (.slice (some ⟨g, 0, none⟩) 4 cap) (.slice (some ⟨kc, oc, none⟩) 8 c) cs8 _ B b HX1.out hxs hxo HV1.out (by omega)).mono ?_
    rintro e w2 ⟨l2, rfl, hu2, hx2⟩
    obtain ⟨g2, cap2, rfl, hg2, hgl2, _, _, _⟩ := own_cases hx2 (by omega)
    have hb0 := HB0.out.upd hu2 (by simp)
    have hb2 := HB2.out.upd hu2 (by simp)
    have hc0 := hb0.cell
    have hz0 := hb0.frozen
    have hc2 := hb2.cell
    have hz2 := hb2.frozen
    have hl22 := hb2.lt
    have HU2 := hd (HU1.out.trans (hu2.mono (by simp)))
    have HD2 := hd (HD1.out.upd hu2 (by simp))
    have hn0 := own_ne_blk hx2 hb0 (by decide)
    have hn2 := own_ne_blk hx2 hb2 (by decide)
    have HX2 := hd hx2
    clear hu2 hx2 hb0 hb2
    go_wp2
    refine bodyPost_ret (v := .tuple #[.agg #[.slice (some ⟨g2, 0, none⟩) 4 cap2, .int .i64 x.room, .int .i64 (-1)], .bool true]) (by simp [results, Try.results17, go_sem, hc2]) rfl ?_
    refine ⟨_, _, rfl, HU2.out.trans' (M := [w.heap.size, w.heap.size + 2]) (by repeat (first | with_reducible exact HU2.out | with_reducible exact Upd.refl _ _ | with_reducible refine Upd.alloc ?_ _ | with_reducible refine Upd.drew ?_ | with_reducible refine Upd.setCell ?_ (by first | (simp; done) | (simp; omega)) _)) (by simp), (by repeat (first | with_reducible exact HD2.out | with_reducible refine Blk.alloc ?_ _ | with_reducible refine Blk.drew ?_ | with_reducible refine Blk.set_other ?_ (by first | (simp; done) | (simp; omega)) _ | exact HD2.out)), ?_⟩
    exact own_upd (L := [w.heap.size, w.heap.size + 2]) HX2.out (by repeat (first | with_reducible exact HU2.out | with_reducible exact Upd.refl _ _ | with_reducible refine Upd.alloc ?_ _ | with_reducible refine Upd.drew ?_ | with_reducible refine Upd.setCell ?_ (by first | (simp; done) | (simp; omega)) _)) (by simp [Value.ownBlock]; omega)
  · have HV8 := hd (show IntsAt b w (.slice a cs.length c) (cs.take 8) by rw [List.take_of_length_le (by omega)]; exact HV.out)
    clear hv4
    generalize hcs8 : cs.take 8 = cs8 at *
    go_enter Try.func17, Try.ntmps17
    go_wp2_with fail
    refine (cut_any s 60 _ hs).mono ?_
    rintro e w' ⟨rfl, rfl⟩
    generalize cutS s 60 = S at *
    go_wp2_with fail
    refine (crash_any D (.slice a cs.length c) cs8 _ b (by repeat (first | with_reducible exact HD.out | with_reducible refine Blk.alloc ?_ _ | with_reducible refine Blk.drew ?_ | with_reducible refine Blk.set_other ?_ (by first | (simp; done) | (simp; omega)) _ | exact HD.out)) hDf.small hDo (HV8.out.upd (L := []) ((((Upd.refl _ w).alloc _).alloc _).alloc _) (by simp))).mono ?_
    rintro e w1 ⟨rfl, hu1, hd1⟩
    have hb0 := Blk.upd (((Blk.new w _ _).alloc _).alloc _) hu1 (by simp; omega)
    have hb1 := Blk.upd ((Blk.new' (w.alloc _) _ _ (k := w.heap.size + 1) (by simp)).alloc _) hu1 (by simp; omega)
    have hb2 := Blk.upd (Blk.new' ((w.alloc _).alloc _) _ _ (k := w.heap.size + 1 + 1) (by simp)) hu1 (by simp; omega)
    have hU1 : Upd [b] w w1 := ((((Upd.refl _ w).alloc _).alloc _).alloc _).trans hu1
    have hx1 := own_upd (L := [b]) HX.out hU1 (by simpa [Value.ownBlock] using hgb)
    have hv1 := HV8.out.upd hU1 (by simp)
    have hc0 := hb0.cell
    have hc1 := hb1.cell
    have hl2 := hb2.lt
    have HB0 := hd hb0
    have HB2 := hd hb2
    have HU1 := hd hU1
    have HX1 := hd hx1
    have HV1 := hd hv1
    have HD1 := hd hd1
    have hlt1 := hd1.lt
    clear hu1 hd1 hb0 hb1 hb2 hU1 hx1 hv1
    go_wp2_with fail
    refine (crash_ref x (.slice (some ⟨g, 0, none⟩) 4 cap) (.slice a cs.length c) cs8 _ B b HX1.out hxs hxo HV1.out (by omega)).mono ?_
    rintro e w2 ⟨l2, rfl, hu2, hx2⟩
    obtain ⟨g2, cap2, rfl, hg2, hgl2, _, _, _⟩ := own_cases hx2 (by omega)
    have hb0 := HB0.out.upd hu2 (by simp)
    have hb2 := HB2.out.upd hu2 (by simp)
    have hc0 := hb0.cell
    have hz0 := hb0.frozen
    have hc2 := hb2.cell
    have hz2 := hb2.frozen
    have hl22 := hb2.lt
    have HU2 := hd (HU1.out.trans (hu2.mono (by simp)))
    have HD2 := hd (HD1.out.upd hu2 (by simp))
    have hn0 := own_ne_blk hx2 hb0 (by decide)
    have hn2 := own_ne_blk hx2 hb2 (by decide)
    have HX2 := hd hx2
    clear hu2 hx2 hb0 hb2
    go_wp2
    refine bodyPost_ret (v := .tuple #[.agg #[.slice (some ⟨g2, 0, none⟩) 4 cap2, .int .i64 x.room, .int .i64 (-1)], .bool true]) (by simp [results, Try.results17, go_sem, hc2]) rfl ?_
    refine ⟨_, _, rfl, HU2.out.trans' (M := [w.heap.size, w.heap.size + 2]) (by repeat (first | with_reducible exact HU2.out | with_reducible exact Upd.refl _ _ | with_reducible refine Upd.alloc ?_ _ | with_reducible refine Upd.drew ?_ | with_reducible refine Upd.setCell ?_ (by first | (simp; done) | (simp; omega)) _)) (by simp), (by repeat (first | with_reducible exact HD2.out | with_reducible refine Blk.alloc ?_ _ | with_reducible refine Blk.drew ?_ | with_reducible refine Blk.set_other ?_ (by first | (simp; done) | (simp; omega)) _ | exact HD2.out)), ?_⟩
    exact own_upd (L := [w.heap.size, w.heap.size + 2]) HX2.out (by repeat (first | with_reducible exact HU2.out | with_reducible exact Upd.refl _ _ | with_reducible refine Upd.alloc ?_ _ | with_reducible refine Upd.drew ?_ | with_reducible refine Upd.setCell ?_ (by first | (simp; done) | (simp; omega)) _)) (by simp [Value.ownBlock]; omega)
end Go.Proofs.Ytjaoiaknglnomaa
