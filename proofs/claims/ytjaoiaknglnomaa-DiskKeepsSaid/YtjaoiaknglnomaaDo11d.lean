/-
  The statements' own 'do' of layer 11 (chatelainelaw11.do), walked, its kind 4: Fail; and nothing. Conditions: disks whose texts are of at most 2^30 bytes.
-/
import Derived.Test.YtjaoiaknglnomaaDo11c
set_option linter.unusedVariables false
set_option maxRecDepth 100000
set_option linter.unusedSimpArgs false
namespace Go.Proofs.Ytjaoiaknglnomaa
open Go.RowKit

set_option maxHeartbeats 2000000 in
theorem do4 (D x : DiskS) (l v : Value) (F N : Int) (s : ByteArray) (w : World) (b B : Nat) (hD : DiskAt w b D) (hx : RefAt B w l x) (hB : B ≤ w.heap.size) (hbB : ∀ g, l.ownBlock = some g → g ≠ b) (hs : s.size ≤ 9223372036854775807) :
    Calls Try.prog 17 #[.pointer (some ⟨b, 0, none⟩), .agg #[l, .int .i64 x.room, .int .i64 x.fail], .agg #[.int .i64 4, .int .i64 F, .int .i64 N, .string s, v]] w (DoPost b B w { D with fail := max (min N 1073741824) (-1) + 1 } { x with fail := max (min N 1073741824) (-1) }) := by
  have hc60 := cutS_size s 60
  obtain ⟨g, cap, rfl, hg, hgl, hcap, _, _⟩ := own_cases hx (by omega)
  have hgb := hbB g rfl
  have HX := hd hx
  have HD := hd hD
  have hlt := hD.lt
  clear hx hD hbB
  go_enter Try.func17, Try.ntmps17
  go_wp2_with fail
  refine (cut_any s 60 _ hs).mono ?_
  rintro e w' ⟨rfl, rfl⟩
  generalize cutS s 60 = S at *
  go_wp2_with fail
  refine (fail_any D N _ b (by repeat (first | with_reducible exact HD.out | with_reducible refine Blk.alloc ?_ _ | with_reducible refine Blk.drew ?_ | with_reducible refine Blk.set_other ?_ (by first | (simp; done) | (simp; omega)) _ | exact HD.out))).mono ?_
  rintro e w1 ⟨rfl, hu1, hd1⟩
  have hb0 := Blk.upd (((Blk.new w _ _).alloc _).alloc _) hu1 (by simp; omega)
  have hb1 := Blk.upd ((Blk.new' (w.alloc _) _ _ (k := w.heap.size + 1) (by simp)).alloc _) hu1 (by simp; omega)
  have hb2 := Blk.upd (Blk.new' ((w.alloc _).alloc _) _ _ (k := w.heap.size + 1 + 1) (by simp)) hu1 (by simp; omega)
  have hU1 : Upd [b] w w1 := ((((Upd.refl _ w).alloc _).alloc _).alloc _).trans hu1
  have hx1 := own_upd (L := [b]) HX.out hU1 (by simpa [Value.ownBlock] using hgb)
  have hn0 := own_ne_blk hx1 hb0 (by decide)
  have hn2 := own_ne_blk hx1 hb2 (by decide)
  have hc0 := hb0.cell
  have hz0 := hb0.frozen
  have hc1 := hb1.cell
  have hc2 := hb2.cell
  have hz2 := hb2.frozen
  have hl2 := hb2.lt
  have HU1 := hd hU1
  have HX1 := hd hx1
  have HD1 := hd hd1
  have hlt1 := hd1.lt
  have HZ := hd (show ∀ z : Int, z = max (min N 1073741824) (-1) → DoPost b B w { D with fail := max (min N 1073741824) (-1) + 1 } { x with fail := max (min N 1073741824) (-1) } (.returned (.tuple #[.agg #[.slice (some ⟨g, 0, none⟩) 4 cap, .int .i64 x.room, .int .i64 z], .bool true]))
      ((((w1.setCell ⟨w.heap.size, 2, none⟩ (.int .i64 z)).setCell ⟨w.heap.size + 1 + 1, 0, none⟩ (.slice (some ⟨g, 0, none⟩) 4 cap)).setCell ⟨w.heap.size + 1 + 1, 1, none⟩ (.int .i64 x.room)).setCell ⟨w.heap.size + 1 + 1, 2, none⟩ (.int .i64 z)) from by
      rintro _ rfl
      refine ⟨_, _, rfl, HU1.out.trans' (M := [w.heap.size, w.heap.size + 2]) (by repeat (first | with_reducible exact HU1.out | with_reducible exact Upd.refl _ _ | with_reducible refine Upd.alloc ?_ _ | with_reducible refine Upd.drew ?_ | with_reducible refine Upd.setCell ?_ (by first | (simp; done) | (simp; omega)) _)) (by simp), (by repeat (first | with_reducible exact HD1.out | with_reducible refine Blk.alloc ?_ _ | with_reducible refine Blk.drew ?_ | with_reducible refine Blk.set_other ?_ (by first | (simp; done) | (simp; omega)) _ | exact HD1.out)), ?_⟩
      exact own_upd (L := [w.heap.size, w.heap.size + 2]) HX1.out (by repeat (first | with_reducible exact HU1.out | with_reducible exact Upd.refl _ _ | with_reducible refine Upd.alloc ?_ _ | with_reducible refine Upd.drew ?_ | with_reducible refine Upd.setCell ?_ (by first | (simp; done) | (simp; omega)) _)) (by simp [Value.ownBlock]; omega))
  clear hu1 hd1 hb0 hb1 hb2 hU1 hx1
  rcases (by omega : N < -1 ∨ N = -1 ∨ (-1 < N ∧ N < 1073741824) ∨ N = 1073741824 ∨ 1073741824 < N) with hN | rfl | ⟨hN, hN'⟩ | rfl | hN
  · go_wp2
    exact bodyPost_ret (v := .tuple #[.agg #[.slice (some ⟨g, 0, none⟩) 4 cap, .int .i64 x.room, .int .i64 (-1)], .bool true]) (by simp [results, Try.results17, go_sem, hc2]) rfl (HZ.out _ (by omega))
  · go_wp2
    exact bodyPost_ret (v := .tuple #[.agg #[.slice (some ⟨g, 0, none⟩) 4 cap, .int .i64 x.room, .int .i64 (-1)], .bool true]) (by simp [results, Try.results17, go_sem, hc2]) rfl (HZ.out _ (by omega))
  · go_wp2
    exact bodyPost_ret (v := .tuple #[.agg #[.slice (some ⟨g, 0, none⟩) 4 cap, .int .i64 x.room, .int .i64 N], .bool true]) (by simp [results, Try.results17, go_sem, hc2]) rfl (HZ.out _ (by omega))
  · go_wp2
    exact bodyPost_ret (v := .tuple #[.agg #[.slice (some ⟨g, 0, none⟩) 4 cap, .int .i64 x.room, .int .i64 1073741824], .bool true]) (by simp [results, Try.results17, go_sem, hc2]) rfl (HZ.out _ (by omega))
  · go_wp2
    exact bodyPost_ret (v := .tuple #[.agg #[.slice (some ⟨g, 0, none⟩) 4 cap, .int .i64 x.room, .int .i64 1073741824], .bool true]) (by simp [results, Try.results17, go_sem, hc2]) rfl (HZ.out _ (by omega))

set_option maxHeartbeats 2000000 in
theorem doElse (D x : DiskS) (l v : Value) (kind F N : Int) (s : ByteArray) (w : World) (b B : Nat) (hD : DiskAt w b D) (hx : RefAt B w l x) (hB : B ≤ w.heap.size) (hbB : ∀ g, l.ownBlock = some g → g ≠ b) (hs : s.size ≤ 9223372036854775807) (hk : kind < 0 ∨ 5 < kind) :
    Calls Try.prog 17 #[.pointer (some ⟨b, 0, none⟩), .agg #[l, .int .i64 x.room, .int .i64 x.fail], .agg #[.int .i64 kind, .int .i64 F, .int .i64 N, .string s, v]] w (DoPost b B w D x) := by
  have hc60 := cutS_size s 60
  obtain ⟨g, cap, rfl, hg, hgl, hcap, _, _⟩ := own_cases hx (by omega)
  have hgb := hbB g rfl
  have HX := hd hx
  have HD := hd hD
  have hlt := hD.lt
  clear hx hD hbB
  go_enter Try.func17, Try.ntmps17
  go_wp2_with fail
  refine (cut_any s 60 _ hs).mono ?_
  rintro e w' ⟨rfl, rfl⟩
  generalize cutS s 60 = S at *
  have k0 : (kind == 0) = false := by simp; omega
  have k1 : (kind == 1) = false := by simp; omega
  have k2 : (kind == 2) = false := by simp; omega
  have k3 : (kind == 3) = false := by simp; omega
  have k4 : (kind == 4) = false := by simp; omega
  have k5 : (kind == 5) = false := by simp; omega
  clear hk
  go_wp2
  refine bodyPost_ret (v := .tuple #[.agg #[.slice (some ⟨g, 0, none⟩) 4 cap, .int .i64 x.room, .int .i64 x.fail], .bool true]) (by simp [results, Try.results17, go_sem]) rfl ?_
  exact ⟨_, _, rfl, ((((Upd.refl _ w).alloc _).alloc _).alloc _), (by repeat (first | with_reducible exact HD.out | with_reducible refine Blk.alloc ?_ _ | with_reducible refine Blk.drew ?_ | with_reducible refine Blk.set_other ?_ (by first | (simp; done) | (simp; omega)) _ | exact HD.out)), own_upd (L := []) HX.out ((((Upd.refl _ w).alloc _).alloc _).alloc _) (fun _ _ => by simp)⟩

end Go.Proofs.Ytjaoiaknglnomaa
