/-
  A log's calls, told of a log under way. Conditions: sizes that there are.
-/
import Derived.Test.YtjaoiaknglnomaaWalP
set_option linter.unusedVariables false
set_option linter.unusedSimpArgs false
namespace Go.Proofs.Ytjaoiaknglnomaa
open Go.RowKit

/-- Numbers that there may be. -/
def Bnd (g : Nat) (L : List (List UInt8)) (v : Nat) : Prop := g ≤ 1000000 ∧ v ≤ 1000000 ∧ L.length ≤ 10000 ∧ ∀ t ∈ L, t.length ≤ 262144
theorem live_now {C : Nat} {R : Int} {d : DiskS} {g n : Nat} {L : List (List UInt8)} {k v : Nat} (h : Live C R d g n L k v) : (d.get (g % 2)).now.size = (encL g L).length := by
  obtain ⟨y, a, b, M, m, j, hd, h0, h1, hy, r⟩ := h
  rw [hd, dk_log]
  simp [txt_size]
theorem wappend_live {C : Nat} {R : Int} {d : DiskS} {g n : Nat} {L : List (List UInt8)} {k v : Nat} (hc : Caps C R) (hCb : C ≤ 1000000) (h : Live C R d g n L k v) (hb : Bnd g L v) (s : List UInt8) (hs : s.length ≤ 262144) (hfit : (encL g (L ++ [s])).length ≤ C) (kl kc bd : Nat) (w : World)
    (hD : DiskAt w bd d) (hL : LogAt w kl kc bd (lgOf g n L)) (hC : CellAt w kc bd 2 v) :
    Calls Try.prog 36 #[.pointer (some ⟨kl, 0, none⟩), .string (txt s)] w fun x w' => ∃ d', d'.fail ≤ d.fail ∧ Upd [bd, kl] w w' ∧ DiskAt w' bd d' ∧ CellAt w' kc bd 2 v ∧
      ((x = .returned (.int .i64 0) ∧ LogAt w' kl kc bd (lgOf g n (L ++ [s])) ∧ Live C R d' g n (L ++ [s]) k v) ∨ (d.fail ≠ 0 ∧ x = .returned (.int .i64 8) ∧ LogAt w' kl kc bd (lgOf g n L) ∧ Live C R d' g n L k v)) := by
  obtain ⟨b1, b2, b3, b4⟩ := hb
  have hn := live_n (J := []) h
  have hf := (base_safe hc b4 h).1
  obtain ⟨d', hd', hr⟩ := append_live hc h s hs hfit
  have hne2 : kc ≠ bd := blk_ne hC hD (by decide)
  have hne3 : kc ≠ kl := blk_ne hC hL (by decide)
  refine (wappend_any d (lgOf g n L) s kl kc bd w hD hL hf (show g < _ by omega) (by omega) (by rw [show (lgOf g n L).gen = g from rfl, live_now h]; omega) (show (encL g L).length ≤ _ by omega) (show L.length ≤ _ by omega)).mono ?_
  rintro x w' ⟨hx, hu, hd, hl⟩
  have hc2 := hC.upd hu (by simp [hne2, hne3])
  rcases hr with ⟨hr, hlv⟩ | ⟨hz, hr, hlv⟩
  · rw [hr] at hx hd hl
    exact ⟨d', hd', hu, hd, hc2, .inl ⟨hx, hl, hlv⟩⟩
  · rw [hr] at hx hd hl
    exact ⟨d', hd', hu, hd, hc2, .inr ⟨hz, hx, hl, hlv⟩⟩
theorem wsync_live {C : Nat} {R : Int} {d : DiskS} {g n : Nat} {L : List (List UInt8)} {k v : Nat} (hc : Caps C R) (hCb : C ≤ 1000000) (h : Live C R d g n L k v) (hb : Bnd g L v) (kl kc bd : Nat) (w : World)
    (hD : DiskAt w bd d) (hL : LogAt w kl kc bd (lgOf g n L)) (hC : CellAt w kc bd 2 v) :
    Calls Try.prog 37 #[.pointer (some ⟨kl, 0, none⟩)] w fun x w' => ∃ d', d'.fail ≤ d.fail ∧ Upd [bd, kl, kc] w w' ∧ DiskAt w' bd d' ∧
      ((x = .returned (.int .i64 0) ∧ ∃ v', v ≤ v' ∧ v' ≤ v + 1 ∧ LogAt w' kl kc bd (lgOf g (encL g L).length L) ∧ CellAt w' kc bd 2 v' ∧ Live C R d' g (encL g L).length L L.length v') ∨
       (d.fail ≠ 0 ∧ x = .returned (.int .i64 8) ∧ Safe C R d' g (v + 1) (fun X => ∃ j, k ≤ j ∧ j ≤ L.length ∧ X = L.take j))) := by
  obtain ⟨b1, b2, b3, b4⟩ := hb
  have hn := live_n (J := []) h
  have hf := (base_safe hc b4 h).1
  obtain ⟨d', hd', hr⟩ := sync_live hc b4 h (by omega)
  refine (wsync_any d (lgOf g n L) v kl kc bd w hD hL hC hf (show g < _ by omega) (show (encL g L).length ≤ _ by omega) (by omega)).mono ?_
  rintro x w' ⟨hx, hu, hd, hl, hcc⟩
  rcases hr with ⟨v', h1, h2, hr, hlv⟩ | ⟨hz, l', v', hr, hlv⟩
  · rw [hr] at hx hd hl hcc
    exact ⟨d', hd', hu, hd, .inl ⟨hx, v', h1, h2, hl, hcc, hlv⟩⟩
  · rw [hr] at hx hd hl hcc
    exact ⟨d', hd', hu, hd, .inr ⟨hz, hx, hlv⟩⟩
theorem wrewrite_live {C : Nat} {R : Int} {d : DiskS} {g n : Nat} {L : List (List UInt8)} {k v : Nat} (hc : Caps C R) (hCb : C ≤ 1000000) (h : Live C R d g n L k v) (hb : Bnd g L v) (L' : List (List UInt8)) (hl' : ∀ t ∈ L', t.length ≤ 262144) (hn' : L'.length ≤ 10000) (hfit : (encL (g + 1) L').length ≤ C) (vl : Value) (Bs kl kc bd : Nat) (w : World)
    (hD : DiskAt w bd d) (hL : LogAt w kl kc bd (lgOf g n L)) (hC : CellAt w kc bd 2 v) (hv : StrRow Bs w vl L') :
    Calls Try.prog 65 #[.pointer (some ⟨kl, 0, none⟩), vl] w fun x w' => ∃ d', d'.fail ≤ d.fail ∧ Upd [bd, kl, kc] w w' ∧ DiskAt w' bd d' ∧
      ((x = .returned (.int .i64 0) ∧ LogAt w' kl kc bd (lgOf (g + 1) (encL (g + 1) L').length L') ∧ CellAt w' kc bd 2 (v + 1) ∧ Live C R d' (g + 1) (encL (g + 1) L').length L' L'.length (v + 1)) ∨
       (d.fail ≠ 0 ∧ x = .returned (.int .i64 8) ∧ Safe C R d' (g + 1) (v + 1) (fun X => X = L' ∨ ∃ j, k ≤ j ∧ j ≤ L.length ∧ X = L.take j))) := by
  obtain ⟨b1, b2, b3, b4⟩ := hb
  have hn := live_n (J := []) h
  have hf := (base_safe hc b4 h).1
  obtain ⟨d', hd', hr⟩ := rewrite_base hc b4 h (lgOf g n L) rfl L' hl' hfit (by omega)
  refine (wrewrite_any d (lgOf g n L) v L' vl Bs kl kc bd w hD hL hC hv hf (show g + 1 < _ by omega) (by omega) hl' (by omega) (show (encL (g + 1) L').length ≤ _ by omega)).mono ?_
  rintro x w' ⟨hx, hu, hd, hl, hcc⟩
  rcases hr with ⟨hr, hlv⟩ | ⟨hz, l', v', hr, hlv⟩
  · rw [hr] at hx hd hl hcc
    exact ⟨d', hd', hu, hd, .inl ⟨hx, hl, hcc, hlv⟩⟩
  · rw [hr] at hx hd hl hcc
    exact ⟨d', hd', hu, hd, .inr ⟨hz, hx, hlv⟩⟩
/-- A log that Open hands back. -/
def Opened (B bd : Nat) (g n : Nat) (L : List (List UInt8)) (v : Nat) (x : Ending) (w : World) : Prop :=
  ∃ kl kc vl, x = .returned (.tuple #[.pointer (some ⟨kl, 0, none⟩), vl, .int .i64 0]) ∧ B ≤ kl ∧ B ≤ kc ∧ LogAt w kl kc bd (lgOf g n L) ∧ CellAt w kc bd 2 v ∧ StrRow B w vl L
theorem wopen_live {C : Nat} {R : Int} {d : DiskS} {g n : Nat} {L : List (List UInt8)} {k v : Nat} (hc : Caps C R) (hCb : C ≤ 1000000) (h : Live C R d g n L k v) (hb : Bnd g L v) (hfit : (encL (g + 1) L).length ≤ 1000000) (bd : Nat) (w : World) (hD : DiskAt w bd d) :
    Calls Try.prog 35 #[.pointer (some ⟨bd, 0, none⟩)] w fun x w' => Opened w.heap.size bd g n L v x w' ∧ Upd [bd] w w' ∧ DiskAt w' bd d := by
  obtain ⟨b1, b2, b3, b4⟩ := hb
  have hn := live_n (J := []) h
  have hf := (base_safe hc b4 h).1
  obtain ⟨ho, hw⟩ := open_live hCb h (by omega) (by omega)
  refine (wopen_any d g n L [] bd w hD hf (by omega) ho b4 (by decide) (by omega) (base_met h) (by omega) (by rw [List.append_nil]; omega)).mono ?_
  rintro x w' ⟨hx, hu, hd⟩
  rw [hw] at hx hd
  obtain ⟨kl, kc, vl, hx, h1, h2, h3, h4, h5⟩ := hx.1 rfl
  exact ⟨⟨kl, kc, vl, hx, h1, h2, h3, h4, h5⟩, hu, hd⟩
theorem wopen_rest {C : Nat} {R : Int} {d : DiskS} {g n : Nat} {L : List (List UInt8)} {J : List UInt8} {k v : Nat} (hc : Caps C R) (hCb : C ≤ 1000000) (h : Rest C R d g n L J k v) (hb : Bnd g L v) (hfit : (encL (g + 1) L).length ≤ C) (bd : Nat) (w : World) (hD : DiskAt w bd d) :
    Calls Try.prog 35 #[.pointer (some ⟨bd, 0, none⟩)] w fun x w' => ∃ d', d'.fail ≤ d.fail ∧ Upd [bd] w w' ∧ DiskAt w' bd d' ∧
      ((∃ g' n' v', g' ≤ g + 1 ∧ v' ≤ v + 1 ∧ Opened w.heap.size bd g' n' L v' x w' ∧ Live C R d' g' n' L L.length v') ∨
       (d.fail ≠ 0 ∧ x = .returned (.tuple #[.pointer none, .slice none 0 0, .int .i64 8]) ∧ Safe C R d' (g + 1) (v + 1) (fun X => X = L))) := by
  obtain ⟨b1, b2, b3, b4⟩ := hb
  obtain ⟨hf, _, hJC, hJ⟩ := rest_fine hc h
  obtain ⟨ho, d', hd', hr⟩ := open_rest hc hCb b4 h hfit (by omega) (by omega)
  refine (wopen_any d g n L J bd w hD hf (by omega) ho b4 hJ.all (by omega) (rest_met h) (by omega) (by omega)).mono ?_
  rintro x w' ⟨hx, hu, hd⟩
  rcases hr with ⟨g', n', v', h1, h2, hr, hlv⟩ | ⟨hz, l', v', hr, hlv⟩
  · rw [hr] at hx hd
    obtain ⟨kl, kc, vl, hx, p1, p2, p3, p4, p5⟩ := hx.1 rfl
    exact ⟨d', hd', hu, hd, .inl ⟨g', n', v', h1, h2, ⟨kl, kc, vl, hx, p1, p2, p3, p4, p5⟩, hlv⟩⟩
  · rw [hr] at hx hd
    exact ⟨d', hd', hu, hd, .inr ⟨hz, hx.2 (show ¬ ((8 : Int) = 0) by decide), hlv⟩⟩
end Go.Proofs.Ytjaoiaknglnomaa
