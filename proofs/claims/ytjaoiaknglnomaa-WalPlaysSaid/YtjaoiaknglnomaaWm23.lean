/-
  A run in memory (layer 13's statements): what keeps it; lists that stay small. No condition beyond those that each theorem states.
-/
import Derived.Test.YtjaoiaknglnomaaWm22
set_option linter.unusedVariables false
set_option linter.unusedSimpArgs false
namespace Go.Proofs.Ytjaoiaknglnomaa
open Go.RowKit

/-- A run in a block of its own. -/
def RunBlk (B kx : Nat) (w : World) (L : List (List UInt8)) (k : Nat) (O : List (List UInt8)) (had : Bool) : Prop :=
  ∃ vl vo, Blk w kx #[vl, .int .i64 k, vo, .bool had] 75 ∧ StrRow B w vl L ∧ StrRow B w vo O
theorem RunBlk.upd {B kx : Nat} {w w' : World} {L : List (List UInt8)} {k : Nat} {O : List (List UInt8)} {had : Bool} {Ls : List Nat} (h : RunBlk B kx w L k O had) (hu : Upd Ls w w') (hk : kx ∉ Ls)
    (hn : ∀ vv X, StrRow B w vv X → ∀ i, vv.ownBlock = some i → i ∉ Ls) : RunBlk B kx w' L k O had := by
  obtain ⟨vl, vo, h1, h2, h3⟩ := h
  exact ⟨vl, vo, h1.upd hu hk, own_upd h2 hu (hn _ _ h2), own_upd h3 hu (hn _ _ h3)⟩
theorem trio {B bd kl kc v : Nat} {l : LogS} {d : DiskS} {w : World} (hD : DiskAt w bd d) (hL : LogAt w kl kc bd l) (hC : CellAt w kc bd 2 v) : ∀ vv X, StrRow B w vv X → ∀ i, vv.ownBlock = some i → i ∉ [bd, kl, kc] := fun vv X h i hi hm => by
  simp only [List.mem_cons, List.not_mem_nil, or_false] at hm
  rcases hm with rfl | rfl | rfl
  · exact own_ne_any h hD (by decide) _ hi rfl
  · exact own_ne_any h hL (by decide) _ hi rfl
  · exact own_ne_any h hC (by decide) _ hi rfl
theorem alone {B bd : Nat} {d : DiskS} {w : World} (hD : DiskAt w bd d) : ∀ vv X, StrRow B w vv X → ∀ i, vv.ownBlock = some i → i ∉ [bd] := fun vv X h i hi hm => by
  simp only [List.mem_cons, List.not_mem_nil, or_false] at hm
  subst hm
  exact own_ne_any h hD (by decide) _ hi rfl
theorem RunBlk.ne {B kx bd : Nat} {w : World} {L : List (List UInt8)} {k : Nat} {O : List (List UInt8)} {had : Bool} {c : Array Value} {T : TypeId} (h : RunBlk B kx w L k O had) (hb : Blk w bd c T) (hT : 75 ≠ T) : kx ≠ bd := by
  obtain ⟨_, _, h1, _⟩ := h
  exact blk_ne h1 hb hT
/-- Few texts, and short ones. -/
def Few (N : Nat) (L : List (List UInt8)) : Prop := L.length ≤ N ∧ ∀ t ∈ L, t.length ≤ 40
theorem Few.nil (N : Nat) : Few N [] := ⟨Nat.zero_le _, by simp⟩
theorem Few.mono {N M : Nat} {L : List (List UInt8)} (h : Few N L) (hm : N ≤ M) : Few M L := ⟨Nat.le_trans h.1 hm, h.2⟩
theorem Few.may {N : Nat} {L O X : List (List UInt8)} {k : Nat} {had : Bool} (hL : Few N L) (hO : Few N O) (h : MayL L k O had X) : Few N X := by
  rcases h with ⟨_, rfl⟩ | ⟨_, h2, h3⟩
  · exact hO
  · exact ⟨Nat.le_trans h2 hL.1, fun t ht => hL.2 t (by rw [h3] at ht; exact List.mem_of_mem_take ht)⟩
theorem Near.few {N : Nat} {S : List UInt8} {l L O L' O' : List (List UInt8)} {k' : Nat} (h : Near S l L O L' O' k') (hL : Few N L) (hO : Few N O) (hN : 6 ≤ N) : Few (N + 1) L' ∧ Few (N + 1) O' := by
  obtain ⟨h1, h2, _⟩ := h
  have hc := cutL6_small l
  have hcc : Few (N + 1) (cutL6 l) := ⟨by have := hc.1; omega, hc.2⟩
  constructor
  · rcases h1 with rfl | rfl | rfl
    · exact hL.mono (by omega)
    · refine ⟨by rw [List.length_append]; have := hL.1; simp; omega, fun t ht => ?_⟩
      rcases List.mem_append.1 ht with h | h
      · exact hL.2 t h
      · simp only [List.mem_cons, List.not_mem_nil, or_false] at h
        subst h; rw [List.length_take]; omega
    · exact hcc
  · rcases h2 with rfl | rfl | rfl
    · exact hO.mono (by omega)
    · exact Few.nil _
    · exact hcc
/-- The first ones of a list are what may be there. -/
theorem may_take {L O : List (List UInt8)} {k j : Nat} (had : Bool) (h1 : k ≤ j) (h2 : j ≤ L.length) : MayL L k O had (L.take j) := by
  have hjl : (L.take j).length = j := by rw [List.length_take]; omega
  exact .inr ⟨by omega, by omega, by rw [hjl]⟩
theorem live_safe {C : Nat} {R : Int} {d : DiskS} {g n : Nat} {L : List (List UInt8)} {k v : Nat} (hc : Caps C R) (hs : ∀ t ∈ L, t.length ≤ 40) (h : Live C R d g n L k v) (O : List (List UInt8)) (had : Bool) : Safe C R d g v (MayL L k O had) :=
  (base_safe hc (fun t ht => by have := hs t ht; omega) h).mono (fun X hX => by obtain ⟨j, h1, h2, rfl⟩ := hX; exact may_take had h1 h2) (Nat.le_refl _) (Nat.le_refl _)
theorem few_bnd {N g v : Nat} {L : List (List UInt8)} (h : Few N L) (hN : N ≤ 10000) (hg : g ≤ 1000000) (hv : v ≤ 1000000) : Bnd g L v := ⟨hg, hv, by have := h.1; omega, fun t ht => by have := h.2 t ht; omega⟩
theorem few_fit {N : Nat} {L : List (List UInt8)} (h : Few N L) (g : Nat) (hN : N ≤ 2000) : (encL g L).length ≤ 270000 := by
  have := small_enc g L h.2
  have := h.1
  omega
/-- What a call leaves. -/
def DoRes (B kl kc bd : Nat) (d : DiskS) (kind : Int) (S : List UInt8) (l : List (List UInt8)) (g : Nat) (L : List (List UInt8)) (v : Nat) (O : List (List UInt8)) (w' : World) (e : Int) (L' : List (List UInt8)) (k' : Nat) (O' : List (List UInt8)) (had' : Bool) : Prop :=
  ∃ d', d'.fail ≤ d.fail ∧ DiskAt w' bd d' ∧ Near S l L O L' O' k' ∧
    ((e = 0 ∧ ∃ g' n' v', LogAt w' kl kc bd (lgOf g' n' L') ∧ CellAt w' kc bd 2 v' ∧ Live 270000 1048576 d' g' n' L' k' v' ∧ g' ≤ g + 1 ∧ v' ≤ v + 1 ∧ ((kind = 1 ∧ L' = L ∧ g' = g) ∨ (kind = 2 ∧ L' = cutL6 l ∧ g' = g + 1) ∨ (kind ≠ 1 ∧ kind ≠ 2 ∧ L' = L ++ [S.take 40] ∧ g' = g))) ∨
     (d.fail ≠ 0 ∧ e = 8 ∧ Safe 270000 1048576 d' (g + 1) (v + 1) (MayL L' k' O' had')))
theorem DoRes.upd {B kl kc bd : Nat} {d : DiskS} {kind : Int} {S : List UInt8} {l : List (List UInt8)} {g : Nat} {L : List (List UInt8)} {v : Nat} {O : List (List UInt8)} {w w' : World} {e : Int} {L' : List (List UInt8)} {k' : Nat} {O' : List (List UInt8)} {had' : Bool} {Ls : List Nat}
    (h : DoRes B kl kc bd d kind S l g L v O w e L' k' O' had') (hu : Upd Ls w w') (h1 : bd ∉ Ls) (h2 : kl ∉ Ls) (h3 : kc ∉ Ls) : DoRes B kl kc bd d kind S l g L v O w' e L' k' O' had' := by
  obtain ⟨d', q1, q2, q3, q4⟩ := h
  refine ⟨d', q1, q2.upd hu h1, q3, ?_⟩
  rcases q4 with ⟨he, g', n', v', p1, p2, p3⟩ | h
  · exact .inl ⟨he, g', n', v', p1.upd hu h2, p2.upd hu h3, p3⟩
  · exact .inr h
theorem wdo_run {d : DiskS} {g n : Nat} {L : List (List UInt8)} {k v N : Nat} (h : Live 270000 1048576 d g n L k v) (hg : g ≤ 1000000) (hv : v ≤ 1000000) (hs : Few N L) (hN : N ≤ 100)
    (B kl kc bd : Nat) (O : List (List UInt8)) (had : Bool) (vl vo : Value) (kind : Int) (S : List UInt8) (hS : S.length ≤ 9223372036854775807) (l : List (List UInt8)) (lv : Value) (w : World) (hw : B ≤ w.heap.size)
    (hl : StrRow B w vl L) (ho : StrRow B w vo O) (hD : DiskAt w bd d) (hLg : LogAt w kl kc bd (lgOf g n L)) (hCl : CellAt w kc bd 2 v) (hlv : TxsAt w lv l) (hls : ∀ t ∈ l, t.length ≤ 9223372036854775807) :
    Calls Try.prog 39 #[.pointer (some ⟨kl, 0, none⟩), .agg #[vl, .int .i64 k, vo, .bool had], .agg #[.int .i64 kind, .string (txt S), lv]] w fun x w' =>
      ∃ (al ao : Option Addr) (cl co : Nat) (e : Int) (L' : List (List UInt8)) (k' : Nat) (O' : List (List UInt8)) (had' : Bool), x = .returned (.tuple #[.agg #[.slice al L'.length cl, .int .i64 k', .slice ao O'.length co, .bool had'], .int .i64 e]) ∧ Upd [bd, kl, kc] w w' ∧
        StrRow B w' (.slice al L'.length cl) L' ∧ StrRow B w' (.slice ao O'.length co) O' ∧ DoRes B kl kc bd d kind S l g L v O w' e L' k' O' had' := by
  refine (wdo_any big_caps (by decide) (by decide) h (few_bnd hs (by omega) hg hv) hs.2 (by have := hs.1; omega) B kl kc bd O had _ kind S hS l lv w hw ⟨vl, vo, rfl, hl, ho⟩ hD hLg hCl hlv hls).mono ?_
  rintro x w' ⟨d', xv', e, L', k', O', had', rfl, hf, hu, hd, hn, hr⟩
  have hrun : RunAt B w' xv' L' k' O' had' := by
    rcases hr with ⟨_, _, _, _, h⟩ | ⟨_, _, h, _⟩
    · exact h.run
    · exact h
  obtain ⟨vl', vo', rfl, h1, h2⟩ := hrun
  obtain ⟨al, cl, rfl, -⟩ := own_open h1
  obtain ⟨ao, co, rfl, -⟩ := own_open h2
  refine ⟨al, ao, cl, co, e, L', k', O', had', rfl, hu, h1, h2, d', hf, hd, hn, ?_⟩
  rcases hr with ⟨he, g', n', v', hh⟩ | ⟨hz, he, _, hh⟩
  · exact .inl ⟨he, g', n', v', hh.log, hh.cell, hh.live, hh.gen, hh.ver, hh.what⟩
  · exact .inr ⟨hz, he, hh⟩
end Go.Proofs.Ytjaoiaknglnomaa
