/-
  chatelainelaw16.Do, walked: the program's acceptor and the document's do one call alike. Conditions: numbers that there may be, the acceptor in memory, the document's list in a row of its own.
-/
import Derived.Test.YtfhmdeamhmjddaaPm17
import Derived.Deep.Cut
import Derived.Deep.CutRange
import Derived.Deep.CutBlock
set_option linter.unusedVariables false
set_option linter.unusedSimpArgs false
set_option maxRecDepth 100000
namespace Go.Proofs.Ytfhmdeamhmjddaa
open Go.RowKit

/-- The blocks that Do lays ahead of its call. -/
structure DoAt (B : Nat) (w : World) (k0 k9 : Nat) (d : AccS) (a2 : Option Addr) (n2 c2 : Nat) (x : ActS) (A : Option Addr) (c : Nat) : Prop where
  s : Blk w k0 #[.bool d.wit, .int .u64 d.bal.c, .int .i64 d.bal.n, .int .i64 d.base, .slice a2 n2 c2, .int .i64 d.node, .int .i64 d.til] 54
  a : Blk w (k0 + 1) #[.int .i64 x.kind, .int .i64 x.frm, .int .i64 x.slot, .int .i64 x.time, .int .i64 x.now, .int .i64 x.long, .int .u64 x.bal.c, .int .i64 x.bal.n, .string x.text] 33
  z : Blk w (k0 + 1 + 1) #[.bool false, .int .u64 0, .int .i64 0, .int .i64 0, .slice none 0 0, .int .i64 0, .int .i64 0] 54
  xm : Blk w (k0 + 1 + 1 + 1) #[.int .i64 0, .int .i64 x.frm, .int .i64 0, .int .i64 0, .int .u64 x.bal.c, .int .i64 x.bal.n, .int .i64 x.slot, .int .i64 x.time, .bool false, .string x.text, .slice none 0 0] 93
  m : Blk w k9 #[.int .i64 0, .int .i64 x.frm, .int .i64 0, .int .i64 0, .int .u64 x.bal.c, .int .i64 x.bal.n, .int .i64 x.slot, .int .i64 x.time, .bool false, .string x.text, .slice A 0 c] 41
  row : RefRow B w (.slice a2 n2 c2) d.list
abbrev GotAt (w : World) (k : Nat) (m : MsgS) (v : Value) : Prop := Blk w k #[.int .i64 m.kind, .int .i64 m.frm, .int .i64 m.to, .int .i64 m.sub, .int .u64 m.bal.c, .int .i64 m.bal.n, .int .i64 m.slot, .int .i64 m.time, .bool m.okb, .string m.text, v] 41
abbrev WantAt (w : World) (k : Nat) (m : MsgS) (v : Value) : Prop := Blk w k #[.int .i64 m.kind, .int .i64 m.frm, .int .i64 m.to, .int .i64 m.sub, .int .u64 m.bal.c, .int .i64 m.bal.n, .int .i64 m.slot, .int .i64 m.time, .bool m.okb, .string m.text, v] 93
abbrev NextAt (w : World) (k : Nat) (d : AccS) (v : Value) : Prop := Blk w k #[.bool d.wit, .int .u64 d.bal.c, .int .i64 d.bal.n, .int .i64 d.base, v, .int .i64 d.node, .int .i64 d.til] 54

theorem DoAt.upd {B k0 k9 n2 c2 c : Nat} {w w' : World} {d : AccS} {a2 A : Option Addr} {x : ActS} {L : List Nat} (h : DoAt B w k0 k9 d a2 n2 c2 x A c) (hu : Upd L w w') (h0 : k0 ∉ L) (h1 : k0 + 1 ∉ L) (h2 : k0 + 1 + 1 ∉ L) (h3 : k0 + 1 + 1 + 1 ∉ L) (h9 : k9 ∉ L)
    (hr : ∀ g, (Value.slice a2 n2 c2).ownBlock = some g → g ∉ L) : DoAt B w' k0 k9 d a2 n2 c2 x A c :=
  ⟨h.s.upd hu h0, h.a.upd hu h1, h.z.upd hu h2, h.xm.upd hu h3, h.m.upd hu h9, own_upd h.row hu hr⟩
theorem DoAt.later {B k0 k9 n2 c2 c : Nat} {w w' : World} {d : AccS} {a2 A : Option Addr} {x : ActS} (h : DoAt B w k0 k9 d a2 n2 c2 x A c) (hu : Upd [] w w') : DoAt B w' k0 k9 d a2 n2 c2 x A c :=
  h.upd hu (by simp) (by simp) (by simp) (by simp) (by simp) (by simp)
theorem DoAt.up {B B' b k0 k9 n2 c2 c : Nat} {w w' : World} {d d0 : AccS} {a2 A : Option Addr} {x : ActS} {l l' : Value} (h : DoAt B w k0 k9 d a2 n2 c2 x A c) (ha : AccAt B' w b l d0) (hu : WrUp b l l' w w') : DoAt B w' k0 k9 d a2 n2 c2 x A c :=
  ⟨blk_up h.s ha (by decide) (by decide) hu, blk_up h.a ha (by decide) (by decide) hu, blk_up h.z ha (by decide) (by decide) hu, blk_up h.xm ha (by decide) (by decide) hu, blk_up h.m ha (by decide) (by decide) hu, own_up h.row ha (by decide) (by decide) hu⟩
theorem DoAt.set {B k0 k9 k T n2 c2 c : Nat} {w w' : World} {cs : Array Value} {d : AccS} {a2 A : Option Addr} {x : ActS} (h : DoAt B w k0 k9 d a2 n2 c2 x A c) (hb : Blk w k cs T) (hT : T ≠ 102) (hk : k0 + 3 < k9 ∧ k9 < k) (hu : Upd [k] w w') : DoAt B w' k0 k9 d a2 n2 c2 x A c :=
  h.upd hu (by simp; omega) (by simp; omega) (by simp; omega) (by simp; omega) (by simp; omega) (fun g hg => by have := own_ne_any h.row hb (fun e => hT e.symm) g hg; simpa using this)

/-- What stands behind the call: both states, both messages, and whether anything turned. -/
def DoOut (B b : Nat) (l : Value) (w : World) (k0 k9 : Nat) (d : AccS) (a2 : Option Addr) (n2 c2 : Nat) (x : ActS) (A : Option Addr) (c : Nat) (s12 : Value) (wx : World) : Prop :=
  ∃ (m' : MsgS) (es : List EntS) (l' : Value) (a3 : Option Addr) (n3 c3 : Nat) (ga : Option Addr) (gc : Nat) (wa : Option Addr) (wcap : Nat), s12 = .bool (d.turned (x.run d)) ∧ es.length ≤ 1024 ∧ DoAt B wx k0 k9 d a2 n2 c2 x A c ∧ AccAt B wx b l' (x.run d) ∧ WrUp b l l' w wx ∧
    RefRow B wx (.slice a3 n3 c3) (x.run d).list ∧ wx.ownsRow B 85 4 (.slice ga es.length gc) es.length (entCells es) ∧ RefRow B wx (.slice wa es.length wcap) es ∧
    GotAt wx (k9 + 1) m' (.slice ga es.length gc) ∧ WantAt wx (k9 + 1 + 1) m' (.slice wa es.length wcap) ∧ NextAt wx (k9 + 1 + 1 + 1) (x.run d) (.slice a3 n3 c3)

theorem turned_self (d : AccS) : d.turned d = false := by simp [AccS.turned]
theorem prep_len (d : AccS) (m : MsgS) (now : Int) (h : d.small) : (d.prepare m now).2.2.1.length ≤ 1024 := by
  have := h.above.few
  unfold AccS.prepare
  (repeat' split) <;> first | (simp; done) | (simp only [List.length_drop]; omega)

/-- The program's call has been made and its message stored; so has the document's. -/
theorem do_close {B b k0 k9 n2 c2 c n3 c3 : Nat} {l l' : Value} {w W1 : World} {d : AccS} {a2 A a3 ga wa : Option Addr} {x : ActS} {gc wcap : Nat} {m' : MsgS} {es : List EntS} {ch : Bool} {v0 v1 v2 v3 v4 v5 v6 v7 v8 v9 v10 : Value} {y0 y1 y2 y3 y4 y5 y6 : Value} (hk : k0 + 3 < k9) (hw : w.heap.size ≤ k0)
    (hch : ch = d.turned (x.run d)) (hes : es.length ≤ 1024) (hD : DoAt B W1 k0 k9 d a2 n2 c2 x A c) (hA : AccAt B W1 b l' (x.run d)) (hU : WrUp b l l' w W1)
    (hr : RefRow B W1 (.slice a3 n3 c3) (x.run d).list) (ho : W1.ownsRow B 85 4 (.slice ga es.length gc) es.length (entCells es)) (he : RefRow B W1 (.slice wa es.length wcap) es)
    (hg : GotAt W1 (k9 + 1) m' (.slice ga es.length gc)) (hwt : Blk W1 (k9 + 1 + 1) #[v0, v1, v2, v3, v4, v5, v6, v7, v8, v9, v10] 93) (hnx : Blk W1 (k9 + 1 + 1 + 1) #[y0, y1, y2, y3, y4, y5, y6] 54)
    : ∃ W2 W3, (((((((W1.setCell ⟨k9 + 1 + 1 + 1, 0, none⟩ (.bool (x.run d).wit)).setCell ⟨k9 + 1 + 1 + 1, 1, none⟩ (.int .u64 (x.run d).bal.c)).setCell ⟨k9 + 1 + 1 + 1, 2, none⟩ (.int .i64 (x.run d).bal.n)).setCell ⟨k9 + 1 + 1 + 1, 3, none⟩ (.int .i64 (x.run d).base)).setCell ⟨k9 + 1 + 1 + 1, 4, none⟩ (.slice a3 n3 c3)).setCell ⟨k9 + 1 + 1 + 1, 5, none⟩ (.int .i64 (x.run d).node)).setCell ⟨k9 + 1 + 1 + 1, 6, none⟩ (.int .i64 (x.run d).til)) = W2 ∧
      (((((((((((W2.setCell ⟨k9 + 1 + 1, 0, none⟩ (.int .i64 m'.kind)).setCell ⟨k9 + 1 + 1, 1, none⟩ (.int .i64 m'.frm)).setCell ⟨k9 + 1 + 1, 2, none⟩ (.int .i64 m'.to)).setCell ⟨k9 + 1 + 1, 3, none⟩ (.int .i64 m'.sub)).setCell ⟨k9 + 1 + 1, 4, none⟩ (.int .u64 m'.bal.c)).setCell ⟨k9 + 1 + 1, 5, none⟩ (.int .i64 m'.bal.n)).setCell ⟨k9 + 1 + 1, 6, none⟩ (.int .i64 m'.slot)).setCell ⟨k9 + 1 + 1, 7, none⟩ (.int .i64 m'.time)).setCell ⟨k9 + 1 + 1, 8, none⟩ (.bool m'.okb)).setCell ⟨k9 + 1 + 1, 9, none⟩ (.string m'.text)).setCell ⟨k9 + 1 + 1, 10, none⟩ (.slice wa es.length wcap)) = W3 ∧
      DoOut B b l w k0 k9 d a2 n2 c2 x A c (.bool ch) W3 := by
  obtain ⟨W2, e2, u2, b2⟩ := set7 hnx (.bool (x.run d).wit) (.int .u64 (x.run d).bal.c) (.int .i64 (x.run d).bal.n) (.int .i64 (x.run d).base) (.slice a3 n3 c3) (.int .i64 (x.run d).node) (.int .i64 (x.run d).til)
  have hw2 : Blk W2 (k9 + 1 + 1) _ _ := hwt.upd u2 (by simp)
  obtain ⟨W3, e3, u3, b3⟩ := set11 hw2 (.int .i64 m'.kind) (.int .i64 m'.frm) (.int .i64 m'.to) (.int .i64 m'.sub) (.int .u64 m'.bal.c) (.int .i64 m'.bal.n) (.int .i64 m'.slot) (.int .i64 m'.time) (.bool m'.okb) (.string m'.text) (.slice wa es.length wcap)
  refine ⟨W2, W3, e2, e3, m', es, l', a3, n3, c3, ga, gc, wa, wcap, by rw [hch], hes, (hD.set hnx (by decide) ⟨hk, by omega⟩ u2).set hw2 (by decide) ⟨hk, by omega⟩ u3, (hA.keep hnx (by decide) (by decide) u2).keep hw2 (by decide) (by decide) u3,
    (hU.later u2 (by intro i hi; simp at hi; omega)).later u3 (by intro i hi; simp at hi; omega), own_keep (own_keep hr hnx (by decide) u2) hw2 (by decide) u3, own_keep (own_keep ho hnx (by decide) u2) hw2 (by decide) u3, own_keep (own_keep he hnx (by decide) u2) hw2 (by decide) u3,
    (hg.upd u2 (by simp <;> omega)).upd u3 (by simp <;> omega), b3, b2.upd u3 (by simp)⟩
end Go.Proofs.Ytfhmdeamhmjddaa
