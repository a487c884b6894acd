/-
  Laws of rows whose elements take four cells: copy, cells set one by one, what a row then is. No condition beyond those that each theorem states.
-/
import Derived.Test.YtfhmdeamhmjddaaAcc6
import Derived.Laws.IdiomCopy
import Derived.Lib.AppendZeros
import Derived.Lib.AppendZerosOnto
import Derived.Lib.Overlaps
import Derived.Lib.SliceRun
import Derived.Laws.NewBlocks
set_option linter.unusedVariables false
set_option linter.unusedSimpArgs false
set_option maxRecDepth 100000
namespace Go.Proofs.Ytfhmdeamhmjddaa
open Go.RowKit

theorem run_copy_many {P : Program} (w : World) (dT sT ty elem : TypeId) (sz b o dLen dCap : Nat) (a : Addr) (sLen sCap : Nat) (cs : List Value)
    (hu : P.underlying dT = some (.slice elem)) (hs : (P.info? elem).map (·.size) = some sz) (hn : cs.length = Nat.min sLen dLen * sz)
    (hsrc : ∀ j v, cs[j]? = some v → w.cell? (a.add j) = some v) (hc : ∀ j, j < cs.length → (w.cell? ⟨b, o + j, none⟩).isSome = true) (hf : ∀ j, j < cs.length → w.frozen? ⟨b, o + j, none⟩ = false) (h1 : ∀ v ∈ cs, v.oneCell' = true) :
    (Builtin.copy_ #[dT, sT] ty #[.slice (some ⟨b, o, none⟩) dLen dCap, .slice (some a) sLen sCap]).run P w = .ok (goInt (Nat.min sLen dLen)) (w.setCells b o cs) := by
  have hl := run_loadCells_list (P := P) w a cs hsrc
  have hst := run_storeCells_cells (P := P) b o cs 0 w (by simpa using hc) (by simpa using hf) h1
  cases hq : P.info? elem with
  | none => simp [hq] at hs
  | some i =>
    have hi : i.size = sz := by simpa [hq] using hs
    simp [Builtin.copy_, run_underlying hu, Builtin.lenOf, Builtin.firstCells, sizeOf, typeInfo, hq, hi, ← hn, hl, hst]

/-- THE OPERATION 'copy(d, s)' FOR THE WALK, where its run is known by an equation (turned from the kit's law for the library's Insert). -/
theorem wpList_copy_run {P : Program} (w : World) {ops : Array Oper} {rest : List Oper} {o : Oper} {a : Act} {Q : Exit → Act → World → Prop} (hgd : o.guard = none) (d s : Operand) (t t' : TypeId)
    (ho : o.op = .call { callee := .builtin .copy, args := #[d, s], argTypes := #[t, t'] }) (v u : Value) (hd : a.eval d = v) (hs : a.eval s = u) {v' : Value} {w' : World}
    (hr : (Builtin.copy_ #[t, t'] o.type #[v, u]).run P w = .ok v' w') (h : wpList P ops Q rest (a.put o.dst v') w') : wpList P ops Q (o :: rest) a w :=
  wpList_plain hgd fun K hK => by
    unfold Oper.wp execOp
    simp only [ho, resolve, invoke, builtin, Sem.run_bind, Sem.run_pure, Result.andThen_ok, List.map_toArray, List.map_cons, List.map_nil, hd, hs, hr]
    exact hK _ _ h

theorem step_copy_run {P : Program} {ops : Array Oper} {o : Oper} {a : Act} {w : World} {K : Act → World → Prop} {Q : Exit → Act → World → Prop} {E : Prop}
    (hg : o.guard = none) (d x : Operand) (dT sT : TypeId) (hop : o.op = Op.call { callee := Callee.builtin Builtin.copy, args := #[d, x], argTypes := #[dT, sT] })
    (v u : Value) (hd : a.eval d = v) (hx : a.eval x = u) {v' : Value} {w' : World} (hr : (Builtin.copy_ #[dT, sT] o.type #[v, u]).run P w = .ok v' w') (hK : K (a.put o.dst v') w') :
    if Region.wanted o (yielded ops a.tmps) = true then Oper.wp P o a w K Q else E := by
  have hw : Region.wanted o (yielded ops a.tmps) = true := by simp [Region.wanted, hg]
  rw [if_pos hw]
  unfold Oper.wp
  simp [execOp, hop, resolve, invoke, builtin, hd, hx, hr, Result.andThen]
  exact hK

theorem setCells_blk {T b : Nat} : ∀ (vs : List Value) (o : Nat) (w : World) (c : Array Value), Blk w b c T → ∃ c', Blk (w.setCells b o vs) b c' T ∧ c'.size = c.size
  | [], _, w, c, h => ⟨c, h, rfl⟩
  | v :: r, o, w, c, h => by
    obtain ⟨c', h1, h2⟩ := setCells_blk r (o + 1) (w.setCell ⟨b, o, none⟩ v) _ (h.set o v)
    exact ⟨c', h1, by simpa using h2⟩
theorem setCells_upd {b : Nat} : ∀ (vs : List Value) (o : Nat) (w : World), Upd [b] w (w.setCells b o vs)
  | [], _, w => Upd.refl _ _
  | v :: r, o, w => ((Upd.refl _ _).setCell (p := ⟨b, o, none⟩) (by simp) v).trans (setCells_upd r (o + 1) _)
theorem setCells_drew (b : Nat) : ∀ (vs : List Value) (o : Nat) (w : World), (w.setCells b o vs).drew = w.drew.setCells b o vs
  | [], _, _ => rfl
  | v :: r, o, w => by rw [World.setCells, World.setCells, setCells_drew b r]; rfl
theorem isSome_setCells' (b : Nat) (vs : List Value) (o : Nat) (w : World) (h : ∀ j, j < vs.length → (w.cell? ⟨b, o + j, none⟩).isSome = true) (k : Nat) (hk : (w.cell? ⟨b, k, none⟩).isSome = true) : ((w.setCells b o vs).cell? ⟨b, k, none⟩).isSome = true := by
  by_cases hin : o ≤ k ∧ k < o + vs.length
  · have := World.cell?_setCells_in b vs o w h (k - o) (by omega)
    rw [show o + (k - o) = k by omega] at this
    rw [this]; rfl
  · rw [World.cell?_setCells_out b vs o w ⟨b, k, none⟩ (fun _ _ => by show k < o ∨ o + vs.length ≤ k; omega)]
    exact hk

/-- A row by its cells. -/
theorem own_of_cells {w : World} {B T sz g n cap : Nat} {c : Array Value} {xs : List Value} (hb : Blk w g c T) (hB : B ≤ g) (hnc : n ≤ cap) (hcm : cap ≤ maxLen) (hcs : c.size = cap * sz) (hl : xs.length = n * sz)
    (hx : ∀ j, j < n * sz → w.cell? ⟨g, j, none⟩ = xs[j]?) : w.ownsRow B T sz (.slice (some ⟨g, 0, none⟩) n cap) n xs := by
  refine ⟨hl, .inr ⟨g, cap, c, rfl, hB, hb, hnc, hcm, hcs, ?_⟩⟩
  apply List.ext_getElem?
  intro j
  by_cases hj : j < n * sz
  · rw [List.getElem?_take, if_pos hj, ← hx j hj, Blk.cell hb j]
    simp
  · rw [List.getElem?_eq_none (by simp; omega), List.getElem?_eq_none (by omega)]

/-- An entry put in at its place: the cells. -/
theorem entCells_ins (l : List EntS) (x : EntS) (i : Nat) (hi : i ≤ l.length) : entCells (l.take i ++ x :: l.drop i) = (entCells l).take (i * 4) ++ (x.cells ++ (entCells l).drop (i * 4)) := by
  have e : entCells (l.take i ++ x :: l.drop i) = entCells (l.take i) ++ (x.cells ++ entCells (l.drop i)) := by
    simp [entCells, List.flatMap_append, List.flatMap_cons]
  have h : (entCells (l.take i)).length = i * 4 := by rw [entCells_length, List.length_take, Nat.min_eq_left hi]
  have h2 : entCells l = entCells (l.take i) ++ entCells (l.drop i) := by
    have : entCells (l.take i ++ l.drop i) = entCells (l.take i) ++ entCells (l.drop i) := List.flatMap_append
    rw [← this, List.take_append_drop]
  rw [e, h2, ← h, List.take_left, List.drop_left]
end Go.Proofs.Ytfhmdeamhmjddaa
