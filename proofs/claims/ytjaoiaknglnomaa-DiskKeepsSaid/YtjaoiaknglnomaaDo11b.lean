/-
  The statements' own 'do' of layer 11 (chatelainelaw11.do), walked, its kinds 1, 2: Put, Sync. Conditions: disks whose texts are of at most 2^30 bytes.
-/
import Derived.Test.YtjaoiaknglnomaaDo11a
set_option linter.unusedVariables false
set_option maxRecDepth 100000
set_option linter.unusedSimpArgs false
namespace Go.Proofs.Ytjaoiaknglnomaa
open Go.RowKit

set_option maxHeartbeats 2000000 in
theorem do1 (D x : DiskS) (l v : Value) (F N : Int) (s : ByteArray) (w : World) (b B : Nat) (hD : DiskAt w b D) (hx : RefAt B w l x) (hDf : D.fine) (hxs : x.small) (hxy : ∀ f ∈ [x.f0, x.f1, x.f2, x.f3], f.now.size ≤ 1073741824)
    (hf : -1 ≤ x.fail) (hf' : x.fail ≤ 1073741825) (hB : B ≤ w.heap.size) (hbB : ∀ g, l.ownBlock = some g → g ≠ b) (hs : s.size ≤ 9223372036854775807) :
    Calls Try.prog 17 #[.pointer (some ⟨b, 0, none⟩), .agg #[l, .int .i64 x.room, .int .i64 x.fail], .agg #[.int .i64 1, .int .i64 F, .int .i64 N, .string s, v]] w (DoPost b B w (D.putIt F (cutS s 60)).2 (refDo x 1 F (cutS s 60)).1) := by
  have hc60 := cutS_size s 60
  obtain ⟨g, cap, rfl, hg, hgl, hcap, _, _⟩ := own_cases hx (by omega)
  have hgb := hbB g rfl
  have HX := hd hx
  have HD := hd hD
  have hlt := hD.lt
  clear hx hD hbB
  go_enter Try.func17, Try.ntmps17
  go_wp2_with fail
  refine (cut_any s 60 _ hs).mono ?_
  rintro e w' ⟨rfl, rfl⟩
  generalize cutS s 60 = S at *
  go_wp2_with fail
  have hsD : S.size ≤ 1099511627776 := by omega
  have hsx : ∀ f ∈ [x.f0, x.f1, x.f2, x.f3], f.now.size + S.size ≤ 1099511627776 := fun f hf => by have := hxy f hf; omega
  refine (put_any D F S _ b (by repeat (first | with_reducible exact HD.out | with_reducible refine Blk.alloc ?_ _ | with_reducible refine Blk.drew ?_ | with_reducible refine Blk.set_other ?_ (by first | (simp; done) | (simp; omega)) _ | exact HD.out)) hDf hsD).mono ?_
  rintro e w1 ⟨rfl, hu1, hd1⟩
  have hb0 := Blk.upd (((Blk.new w _ _).alloc _).alloc _) hu1 (by simp; omega)
  have hb1 := Blk.upd ((Blk.new' (w.alloc _) _ _ (k := w.heap.size + 1) (by simp)).alloc _) hu1 (by simp; omega)
  have hb2 := Blk.upd (Blk.new' ((w.alloc _).alloc _) _ _ (k := w.heap.size + 1 + 1) (by simp)) hu1 (by simp; omega)
  have hU1 : Upd [b] w w1 := ((((Upd.refl _ w).alloc _).alloc _).alloc _).trans hu1
  have hx1 := own_upd (L := [b]) HX.out hU1 (by simpa [Value.ownBlock] using hgb)
  have hc0 := hb0.cell
  have hc1 := hb1.cell
  have hl2 := hb2.lt
  have HB0 := hd hb0
  have HB2 := hd hb2
  have HU1 := hd hU1
  have HX1 := hd hx1
  have HD1 := hd hd1
  have hlt1 := hd1.lt
  clear hu1 hd1 hb0 hb1 hb2 hU1 hx1
  go_wp2_with fail
  refine (do_ref x (.slice (some ⟨g, 0, none⟩) 4 cap) 1 F S _ B HX1.out hxs hsx (by omega) hf hf').mono ?_
  rintro e w2 ⟨l2, rfl, hu2, hx2⟩
  obtain ⟨g2, cap2, rfl, hg2, hgl2, _, _, _⟩ := own_cases hx2 (by omega)
  have hb0 := HB0.out.upd hu2 (by simp)
  have hb2 := HB2.out.upd hu2 (by simp)
  have hc0 := hb0.cell
  have hz0 := hb0.frozen
  have hc2 := hb2.cell
  have hz2 := hb2.frozen
  have hl22 := hb2.lt
  have HU2 := hd (HU1.out.trans (hu2.mono (by simp)))
  have HD2 := hd (HD1.out.upd hu2 (by simp))
  have hn0 := own_ne_blk hx2 hb0 (by decide)
  have hn2 := own_ne_blk hx2 hb2 (by decide)
  have HX2 := hd hx2
  clear hu2 hx2 hb0 hb2
  go_wp2
  refine bodyPost_ret (v := .tuple #[.agg #[.slice (some ⟨g2, 0, none⟩) 4 cap2, .int .i64 (refDo x 1 F S).1.room, .int .i64 (refDo x 1 F S).1.fail], .bool ((D.putIt F S).1 == (refDo x 1 F S).2)]) (by simp [results, Try.results17, go_sem, hc2]) rfl ?_
  refine ⟨_, _, rfl, HU2.out.trans' (M := [w.heap.size, w.heap.size + 2]) (by repeat (first | with_reducible exact HU2.out | with_reducible exact Upd.refl _ _ | with_reducible refine Upd.alloc ?_ _ | with_reducible refine Upd.drew ?_ | with_reducible refine Upd.setCell ?_ (by first | (simp; done) | (simp; omega)) _)) (by simp), (by repeat (first | with_reducible exact HD2.out | with_reducible refine Blk.alloc ?_ _ | with_reducible refine Blk.drew ?_ | with_reducible refine Blk.set_other ?_ (by first | (simp; done) | (simp; omega)) _ | exact HD2.out)), ?_⟩
  exact own_upd (L := [w.heap.size, w.heap.size + 2]) HX2.out (by repeat (first | with_reducible exact HU2.out | with_reducible exact Upd.refl _ _ | with_reducible refine Upd.alloc ?_ _ | with_reducible refine Upd.drew ?_ | with_reducible refine Upd.setCell ?_ (by first | (simp; done) | (simp; omega)) _)) (by simp [Value.ownBlock]; omega)
set_option maxHeartbeats 2000000 in
theorem do2 (D x : DiskS) (l v : Value) (F N : Int) (s : ByteArray) (w : World) (b B : Nat) (hD : DiskAt w b D) (hx : RefAt B w l x) (hDf : D.fine) (hxs : x.small) (hxy : ∀ f ∈ [x.f0, x.f1, x.f2, x.f3], f.now.size ≤ 1073741824)
    (hf : -1 ≤ x.fail) (hf' : x.fail ≤ 1073741825) (hB : B ≤ w.heap.size) (hbB : ∀ g, l.ownBlock = some g → g ≠ b) (hs : s.size ≤ 9223372036854775807) :
    Calls Try.prog 17 #[.pointer (some ⟨b, 0, none⟩), .agg #[l, .int .i64 x.room, .int .i64 x.fail], .agg #[.int .i64 2, .int .i64 F, .int .i64 N, .string s, v]] w (DoPost b B w (D.syncIt F).2 (refDo x 2 F ⟨#[]⟩).1) := by
  have hc60 := cutS_size s 60
  obtain ⟨g, cap, rfl, hg, hgl, hcap, _, _⟩ := own_cases hx (by omega)
  have hgb := hbB g rfl
  have HX := hd hx
  have HD := hd hD
  have hlt := hD.lt
  clear hx hD hbB
  go_enter Try.func17, Try.ntmps17
  go_wp2_with fail
  refine (cut_any s 60 _ hs).mono ?_
  rintro e w' ⟨rfl, rfl⟩
  generalize cutS s 60 = S at *
  go_wp2_with fail
  have hsx : ∀ f ∈ [x.f0, x.f1, x.f2, x.f3], f.now.size + (⟨#[]⟩ : ByteArray).size ≤ 1099511627776 := fun f hf => by have := hxy f hf; rw [show (⟨#[]⟩ : ByteArray).size = 0 from rfl]; omega
  refine (sync_any D F _ b (by repeat (first | with_reducible exact HD.out | with_reducible refine Blk.alloc ?_ _ | with_reducible refine Blk.drew ?_ | with_reducible refine Blk.set_other ?_ (by first | (simp; done) | (simp; omega)) _ | exact HD.out)) hDf).mono ?_
  rintro e w1 ⟨rfl, hu1, hd1⟩
  have hb0 := Blk.upd (((Blk.new w _ _).alloc _).alloc _) hu1 (by simp; omega)
  have hb1 := Blk.upd ((Blk.new' (w.alloc _) _ _ (k := w.heap.size + 1) (by simp)).alloc _) hu1 (by simp; omega)
  have hb2 := Blk.upd (Blk.new' ((w.alloc _).alloc _) _ _ (k := w.heap.size + 1 + 1) (by simp)) hu1 (by simp; omega)
  have hU1 : Upd [b] w w1 := ((((Upd.refl _ w).alloc _).alloc _).alloc _).trans hu1
  have hx1 := own_upd (L := [b]) HX.out hU1 (by simpa [Value.ownBlock] using hgb)
  have hc0 := hb0.cell
  have hc1 := hb1.cell
  have hl2 := hb2.lt
  have HB0 := hd hb0
  have HB2 := hd hb2
  have HU1 := hd hU1
  have HX1 := hd hx1
  have HD1 := hd hd1
  have hlt1 := hd1.lt
  clear hu1 hd1 hb0 hb1 hb2 hU1 hx1
  go_wp2_with fail
  refine (do_ref x (.slice (some ⟨g, 0, none⟩) 4 cap) 2 F ⟨#[]⟩ _ B HX1.out hxs hsx (by omega) hf hf').mono ?_
  rintro e w2 ⟨l2, rfl, hu2, hx2⟩
  obtain ⟨g2, cap2, rfl, hg2, hgl2, _, _, _⟩ := own_cases hx2 (by omega)
  have hb0 := HB0.out.upd hu2 (by simp)
  have hb2 := HB2.out.upd hu2 (by simp)
  have hc0 := hb0.cell
  have hz0 := hb0.frozen
  have hc2 := hb2.cell
  have hz2 := hb2.frozen
  have hl22 := hb2.lt
  have HU2 := hd (HU1.out.trans (hu2.mono (by simp)))
  have HD2 := hd (HD1.out.upd hu2 (by simp))
  have hn0 := own_ne_blk hx2 hb0 (by decide)
  have hn2 := own_ne_blk hx2 hb2 (by decide)
  have HX2 := hd hx2
  clear hu2 hx2 hb0 hb2
  go_wp2
  refine bodyPost_ret (v := .tuple #[.agg #[.slice (some ⟨g2, 0, none⟩) 4 cap2, .int .i64 (refDo x 2 F ⟨#[]⟩).1.room, .int .i64 (refDo x 2 F ⟨#[]⟩).1.fail], .bool ((D.syncIt F).1 == (refDo x 2 F ⟨#[]⟩).2)]) (by simp [results, Try.results17, go_sem, hc2]) rfl ?_
  refine ⟨_, _, rfl, HU2.out.trans' (M := [w.heap.size, w.heap.size + 2]) (by repeat (first | with_reducible exact HU2.out | with_reducible exact Upd.refl _ _ | with_reducible refine Upd.alloc ?_ _ | with_reducible refine Upd.drew ?_ | with_reducible refine Upd.setCell ?_ (by first | (simp; done) | (simp; omega)) _)) (by simp), (by repeat (first | with_reducible exact HD2.out | with_reducible refine Blk.alloc ?_ _ | with_reducible refine Blk.drew ?_ | with_reducible refine Blk.set_other ?_ (by first | (simp; done) | (simp; omega)) _ | exact HD2.out)), ?_⟩
  exact own_upd (L := [w.heap.size, w.heap.size + 2]) HX2.out (by repeat (first | with_reducible exact HU2.out | with_reducible exact Upd.refl _ _ | with_reducible refine Upd.alloc ?_ _ | with_reducible refine Upd.drew ?_ | with_reducible refine Upd.setCell ?_ (by first | (simp; done) | (simp; omega)) _)) (by simp [Value.ownBlock]; omega)
end Go.Proofs.Ytjaoiaknglnomaa
