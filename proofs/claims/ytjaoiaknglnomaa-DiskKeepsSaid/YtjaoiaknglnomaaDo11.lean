/-
  The statements' own 'do' of layer 11 (chatelainelaw11.do), whatever call comes in. Conditions: disks of a room of at most 2^30, no more occupied than that.
-/
import Derived.Test.YtjaoiaknglnomaaPlain11
set_option linter.unusedVariables false
set_option linter.unusedSimpArgs false
namespace Go.Proofs.Ytjaoiaknglnomaa
open Go.RowKit

/-- What a call makes of a disk (but for Spoil). -/
def actD (D : DiskS) (kind F N : Int) (S : ByteArray) (cs : List Int) : DiskS :=
  if kind = 0 then (D.appendIt F (cutS S 60)).2 else if kind = 1 then (D.putIt F (cutS S 60)).2 else if kind = 2 then (D.syncIt F).2
  else if kind = 3 then D.crashIt (cs.take 8) else if kind = 4 then { D with fail := max (min N 1073741824) (-1) + 1 } else D

theorem do_any (R : Int) (D x : DiskS) (l v : Value) (kind F N : Int) (s : ByteArray) (cs : List Int) (w : World) (b B : Nat) (hD : DiskAt w b D) (hx : RefAt B w l x) (hGD : Good R 0 D) (hGx : Good R (-1) x) (hR : R ≤ 1073741824)
    (hv : IntsAt b w v cs) (hB : B ≤ w.heap.size) (hbB : ∀ g, l.ownBlock = some g → g ≠ b) (hs : s.size ≤ 9223372036854775807) :
    Calls Try.prog 17 #[.pointer (some ⟨b, 0, none⟩), .agg #[l, .int .i64 x.room, .int .i64 x.fail], .agg #[.int .i64 kind, .int .i64 F, .int .i64 N, .string s, v]] w
      (fun e w' => ∃ D' x', Good R 0 D' ∧ Good R (-1) x' ∧ (kind ≠ 5 → D' = actD D kind F N s cs) ∧ DoPost b B w D' x' e w') := by
  have hxs := hGx.small hR
  have hxy : ∀ f ∈ [x.f0, x.f1, x.f2, x.f3], f.now.size ≤ 1073741824 := by
    have h0 := hGx.now 0
    have h1 := hGx.now 1
    have h2 := hGx.now 2
    have h3 := hGx.now 3
    intro f hf
    simp only [List.mem_cons, List.not_mem_nil, or_false] at hf
    simp only [DiskS.get] at h0 h1 h2 h3
    rcases hf with rfl | rfl | rfl | rfl <;> omega
  have hf0 := hGx.f0
  have hf1 := hGx.f1
  rcases (by omega : kind = 0 ∨ kind = 1 ∨ kind = 2 ∨ kind = 3 ∨ kind = 4 ∨ kind = 5 ∨ (kind < 0 ∨ 5 < kind)) with rfl | rfl | rfl | rfl | rfl | rfl | hk
  · exact (do0 D x l v F N s w b B hD hx (hGD.fine hR) (fun i => by have := hGD.now i; omega) hxs hxy hf0 (by omega) hB hbB hs).mono fun e w' h => ⟨_, _, hGD.append _ _, hGx.refDo _ _ _, fun _ => rfl, h⟩
  · exact (do1 D x l v F N s w b B hD hx (hGD.fine hR) hxs hxy hf0 (by omega) hB hbB hs).mono fun e w' h => ⟨_, _, hGD.put _ _, hGx.refDo _ _ _, fun _ => rfl, h⟩
  · exact (do2 D x l v F N s w b B hD hx (hGD.fine hR) hxs hxy hf0 (by omega) hB hbB hs).mono fun e w' h => ⟨_, _, hGD.sync _, hGx.refDo _ _ _, fun _ => rfl, h⟩
  · refine (do3 D x l v F N s w b B hD hx (hGD.fine hR) hGD.ok hxs hGx.ok cs hv hB hbB hs).mono fun e w' h => ⟨_, _, hGD.crash _, ?_, fun _ => rfl, h⟩
    have hg := (hGx.fail 0 (by omega) (by omega)).crashTo (cs.take 8) 4 (by omega)
    exact ⟨hg.used, hGx.room, hg.ok, by simp, by simp⟩
  · exact (do4 D x l v F N s w b B hD hx hB hbB hs).mono fun e w' h => ⟨_, _, hGD.fail _ (by omega) (by omega), hGx.fail _ (by omega) (by omega), fun _ => rfl, h⟩
  · exact (do5 D x l v F N s w b B hD hx (hGD.fine hR) hxs hB hbB hs).mono fun e w' ⟨D', x', hS, hS', h⟩ => ⟨_, _, hGD.spoils hS, hGx.spoils hS', fun h5 => absurd rfl h5, h⟩
  · exact (doElse D x l v kind F N s w b B hD hx hB hbB hs hk).mono fun e w' h => ⟨_, _, hGD, hGx, fun _ => by
      unfold actD; rw [if_neg (by omega), if_neg (by omega), if_neg (by omega), if_neg (by omega), if_neg (by omega)], h⟩
end Go.Proofs.Ytjaoiaknglnomaa
