/-
  Texts as lists of bytes; lists of texts in memory. No condition beyond those that each theorem states.
-/
import Derived.Test.YtfhmdeamhmjddaaDoorProg
import Derived.WalkKit
import Derived.Test.YtfhmdeamhmjddaaDoorLaws
import Derived.Test.YtfhmdeamhmjddaaDoorOwn13
set_option linter.unusedVariables false
set_option linter.unusedSimpArgs false
set_option maxRecDepth 100000
namespace Go.Proofs.YtfhmdeamhmjddaaDoor
open Go.RowKit

def txt (l : List UInt8) : ByteArray := ⟨l.toArray⟩
@[simp] theorem txt_size (l : List UInt8) : (txt l).size = l.length := by simp [txt, ByteArray.size]
theorem txt_append (a b : List UInt8) : txt a ++ txt b = txt (a ++ b) := by
  apply ByteArray.ext; simp [txt, ByteArray.data_append]
theorem txt_data (s : ByteArray) : txt s.data.toList = s := by apply ByteArray.ext; simp [txt]
theorem txt_list (l : List UInt8) : (txt l).toList = l := by rw [ByteArray.toList_eq]; simp [txt]
theorem txt_inj {a b : List UInt8} (h : txt a = txt b) : a = b := by rw [← txt_list a, h, txt_list]
theorem txt_head (l : List UInt8) (n : Nat) (h : n ≤ l.length) : (txt l).extract 0 n = txt (l.take n) := by
  apply ByteArray.ext
  simp [txt, ByteArray.data_extract]
theorem txt_tail (l : List UInt8) (n : Nat) : (txt l).extract n l.length = txt (l.drop n) := by
  apply ByteArray.ext
  simp [txt, ByteArray.data_extract]
  rw [List.take_of_length_le (by simp)]
theorem txt_at (l : List UInt8) (j : Nat) (h : j < l.length) (h' : j < (txt l).size) : (txt l)[j]'h' = l[j] := by
  show (txt l).data[j]'_ = _
  first | (simp [txt]; done) | (simp [txt]; rfl)
theorem add_txt' (a b : List UInt8) (h : a.length + b.length ≤ 4611686018427387904) : ∀ W : World, (Op.stringOp .add (txt a) (txt b)).run Tryd.prog W = .ok (.string (txt (a ++ b))) W := fun W => by
  rw [run_string_add_sum _ _ _ (by simp; omega), txt_append]
theorem Tryd.infoStr : (Tryd.prog.info? 9).map (fun i => (i.zero, i.size, i.bytes)) = some (some (.string ⟨#[]⟩), 1, 16) := by kernel_rfl
def strVals (l : List (List UInt8)) : List Value := l.map fun t => .string (txt t)
/-- A list of texts in a row of its own. -/
abbrev StrRow (B : Nat) (w : World) (v : Value) (l : List (List UInt8)) : Prop := w.ownsRow B 9 1 v l.length (strVals l)
/-- One text appended. -/
theorem strAppend {ops : Array Oper} {rest : List Oper} {o : Oper} {a : Act} {w : World} {Q : Exit → Act → World → Prop} (hgd : o.guard = none) (s x : Operand)
    (ho : o.op = .call { callee := .builtin .append, args := #[s, x], argTypes := #[29, 29] })
    (B : Nat) (v : Value) (l : List (List UInt8)) (e : List UInt8) (hs : a.eval s = v) (hown : StrRow B w v l) (k : Nat) (hx : a.eval x = .slice (some ⟨k, 0, none⟩) 1 1) (hb : Blk w k #[.string (txt e)] 9)
    (hl : l.length ≤ 1000000) (hB : B ≤ w.heap.size)
    (h : ∀ v' w', StrRow B w' v' (l ++ [e]) → Upd v.ownBlock.toList w w' → (v'.ownBlock = v.ownBlock ∨ v'.ownBlock = some w.heap.size) → wpList Tryd.prog ops Q rest (a.put o.dst v') w') : wpList Tryd.prog ops Q (o :: rest) a w := by
  obtain ⟨i0, hinf, hz0, hz1, hz2⟩ := info_parts Tryd.infoStr
  refine wpList_append_own_at w hgd s x 29 ho B 9 i0 _ 1 16 Tryd.underlying29 hinf hz0 hz1 hz2 rfl (by decide) v l.length (strVals l) hs hown ⟨k, 0, none⟩ 1 1 [.string (txt e)] hx rfl (fun j u hj => by rw [Addr.add_lit, Nat.zero_add, Blk.cell hb j]; simpa using hj)
    (by intro u hu; simp only [List.mem_cons, List.not_mem_nil, or_false] at hu; rcases hu with rfl; rfl) (by unfold maxLen; omega) (by omega) hB ?_
  intro v' w' hown' hgr _ hat
  refine h v' w' ?_ (Upd.of_grown hgr) hat
  unfold StrRow
  rw [List.length_append]
  have e3 : strVals (l ++ [e]) = strVals l ++ [.string (txt e)] := by simp [strVals]
  rw [e3]
  simpa using hown'

/-- A slice of texts. -/
def TxsAt (w : World) (v : Value) (l : List (List UInt8)) : Prop :=
  ∃ (a : Option Addr) (c : Nat), v = .slice a l.length c ∧ l.length ≤ c ∧ c ≤ 9223372036854775807 ∧ (0 < l.length → ∃ k o, a = some ⟨k, o, none⟩ ∧ k < w.heap.size ∧ ∀ i (h : i < l.length), w.cell? ⟨k, o + i, none⟩ = some (.string (txt l[i])))
theorem TxsAt.upd {w w' : World} {v : Value} {l : List (List UInt8)} (h : TxsAt w v l) (hu : Upd [] w w') : TxsAt w' v l := by
  obtain ⟨a, c, h1, h2, h3, h4⟩ := h
  refine ⟨a, c, h1, h2, h3, fun h0 => ?_⟩
  obtain ⟨k, o, e, hk, hc⟩ := h4 h0
  exact ⟨k, o, e, Nat.lt_of_lt_of_le hk hu.size, fun i hi => by rw [← hc i hi]; exact World.cell?_of_block (hu.block k hk (by simp))⟩
theorem row_strs {B : Nat} {w : World} {v : Value} {l : List (List UInt8)} (h : StrRow B w v l) : TxsAt w v l := by
  obtain ⟨a, cap, rfl, h1, h2, h3⟩ := own_open h
  refine ⟨a, cap, rfl, h1, by unfold maxLen at h2; omega, fun h0 => ?_⟩
  obtain ⟨g, rfl, hg, hgl, hc, -⟩ := h3 h0
  refine ⟨g, 0, rfl, hgl, fun i hi => ?_⟩
  rw [Nat.zero_add, hc i (by omega)]
  simp [strVals, hi]
/-- A block of texts, as a list of texts. -/
theorem blk_strs {w : World} {k : Nat} {l : List (List UInt8)} {c : Array Value} {T : TypeId} (h : Blk w k c T) (hc : c = (strVals l).toArray) (hl : l.length ≤ 9223372036854775807) : TxsAt w (.slice (some ⟨k, 0, none⟩) l.length l.length) l := by
  subst hc
  refine ⟨_, _, rfl, Nat.le_refl _, hl, fun h0 => ⟨k, 0, rfl, h.lt, fun i hi => ?_⟩⟩
  rw [Nat.zero_add, h.cell i]
  simp [strVals, hi]
theorem TxsAt.take {w : World} {a : Option Addr} {n c : Nat} {l : List (List UInt8)} (h : TxsAt w (.slice a n c) l) (m : Nat) (hm : m ≤ l.length) : TxsAt w (.slice a m c) (l.take m) := by
  obtain ⟨a', c', h1, h2, h3, h4⟩ := h
  simp only [Value.slice.injEq] at h1
  obtain ⟨rfl, rfl, rfl⟩ := h1
  have hl : (l.take m).length = m := by rw [List.length_take]; omega
  refine ⟨a, c, by rw [hl], by omega, h3, fun h0 => ?_⟩
  obtain ⟨k, o, e, hk, hc⟩ := h4 (by omega)
  exact ⟨k, o, e, hk, fun i hi => by rw [hc i (by omega)]; simp⟩
theorem blk_ne {w : World} {a b : Nat} {c c' : Array Value} {T T' : TypeId} (h : Blk w a c T) (h' : Blk w b c' T') (hT : T ≠ T') : a ≠ b := by
  rintro rfl
  rw [Blk, h'] at h
  simp only [Option.some.injEq, Obj.cells.injEq] at h
  exact hT h.2.1.symm
end Go.Proofs.YtfhmdeamhmjddaaDoor
