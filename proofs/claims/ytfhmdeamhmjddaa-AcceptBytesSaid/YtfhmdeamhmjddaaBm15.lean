/-
  chatelainelaw16.Do, walked: the program's acceptor and the document's do one call alike. Conditions: numbers that there may be, the acceptor in memory, the document's list in a row of its own.
-/
import Derived.Test.YtfhmdeamhmjddaaBm14
import Derived.Deep.Cut
import Derived.Deep.CutRange
import Derived.Deep.CutBlock
import Derived.Deep.DeepMust
set_option linter.unusedVariables false
set_option linter.unusedSimpArgs false
set_option maxRecDepth 100000
namespace Go.Proofs.Ytfhmdeamhmjddaa
open Go.RowKit

/-- The blocks that Do lays ahead of its call. -/
structure DoAt (B : Nat) (w : World) (k0 k9 : Nat) (d : AccS) (a2 : Option Addr) (n2 c2 : Nat) (x : ActS) (A : Option Addr) (c : Nat) : Prop where
  s : Blk w k0 #[.bool d.wit, .int .u64 d.bal.c, .int .i64 d.bal.n, .int .i64 d.base, .slice a2 n2 c2, .int .i64 d.node, .int .i64 d.til] 54
  a : Blk w (k0 + 1) #[.int .i64 x.kind, .int .i64 x.frm, .int .i64 x.slot, .int .i64 x.time, .int .i64 x.now, .int .i64 x.long, .int .u64 x.bal.c, .int .i64 x.bal.n, .string x.text] 33
  z : Blk w (k0 + 1 + 1) #[.bool false, .int .u64 0, .int .i64 0, .int .i64 0, .slice none 0 0, .int .i64 0, .int .i64 0] 54
  xm : Blk w (k0 + 1 + 1 + 1) #[.int .i64 0, .int .i64 x.frm, .int .i64 0, .int .i64 0, .int .u64 x.bal.c, .int .i64 x.bal.n, .int .i64 x.slot, .int .i64 x.time, .bool false, .string x.text, .slice none 0 0] 93
  m : Blk w k9 #[.int .i64 0, .int .i64 x.frm, .int .i64 0, .int .i64 0, .int .u64 x.bal.c, .int .i64 x.bal.n, .int .i64 x.slot, .int .i64 x.time, .bool false, .string x.text, .slice A 0 c] 41
  row : RefRow B w (.slice a2 n2 c2) d.list
abbrev GotAt (w : World) (k : Nat) (m : MsgS) (v : Value) : Prop := Blk w k #[.int .i64 m.kind, .int .i64 m.frm, .int .i64 m.to, .int .i64 m.sub, .int .u64 m.bal.c, .int .i64 m.bal.n, .int .i64 m.slot, .int .i64 m.time, .bool m.okb, .string m.text, v] 41
abbrev WantAt (w : World) (k : Nat) (m : MsgS) (v : Value) : Prop := Blk w k #[.int .i64 m.kind, .int .i64 m.frm, .int .i64 m.to, .int .i64 m.sub, .int .u64 m.bal.c, .int .i64 m.bal.n, .int .i64 m.slot, .int .i64 m.time, .bool m.okb, .string m.text, v] 93
abbrev NextAt (w : World) (k : Nat) (d : AccS) (v : Value) : Prop := Blk w k #[.bool d.wit, .int .u64 d.bal.c, .int .i64 d.bal.n, .int .i64 d.base, v, .int .i64 d.node, .int .i64 d.til] 54

theorem DoAt.upd {B k0 k9 n2 c2 c : Nat} {w w' : World} {d : AccS} {a2 A : Option Addr} {x : ActS} {L : List Nat} (h : DoAt B w k0 k9 d a2 n2 c2 x A c) (hu : Upd L w w') (h0 : k0 ∉ L) (h1 : k0 + 1 ∉ L) (h2 : k0 + 1 + 1 ∉ L) (h3 : k0 + 1 + 1 + 1 ∉ L) (h9 : k9 ∉ L)
    (hr : ∀ g, (Value.slice a2 n2 c2).ownBlock = some g → g ∉ L) : DoAt B w' k0 k9 d a2 n2 c2 x A c :=
  ⟨h.s.upd hu h0, h.a.upd hu h1, h.z.upd hu h2, h.xm.upd hu h3, h.m.upd hu h9, own_upd h.row hu hr⟩
theorem DoAt.later {B k0 k9 n2 c2 c : Nat} {w w' : World} {d : AccS} {a2 A : Option Addr} {x : ActS} (h : DoAt B w k0 k9 d a2 n2 c2 x A c) (hu : Upd [] w w') : DoAt B w' k0 k9 d a2 n2 c2 x A c :=
  h.upd hu (by simp) (by simp) (by simp) (by simp) (by simp) (by simp)
theorem DoAt.up {B B' b k0 k9 n2 c2 c : Nat} {w w' : World} {d d0 : AccS} {a2 A : Option Addr} {x : ActS} {l l' : Value} (h : DoAt B w k0 k9 d a2 n2 c2 x A c) (ha : AccAt B' w b l d0) (hu : WrUp b l l' w w') : DoAt B w' k0 k9 d a2 n2 c2 x A c :=
  ⟨blk_up h.s ha (by decide) (by decide) hu, blk_up h.a ha (by decide) (by decide) hu, blk_up h.z ha (by decide) (by decide) hu, blk_up h.xm ha (by decide) (by decide) hu, blk_up h.m ha (by decide) (by decide) hu, own_up h.row ha (by decide) (by decide) hu⟩
theorem DoAt.set {B k0 k9 k T n2 c2 c : Nat} {w w' : World} {cs : Array Value} {d : AccS} {a2 A : Option Addr} {x : ActS} (h : DoAt B w k0 k9 d a2 n2 c2 x A c) (hb : Blk w k cs T) (hT : T ≠ 102) (hk : k0 + 3 < k9 ∧ k9 < k) (hu : Upd [k] w w') : DoAt B w' k0 k9 d a2 n2 c2 x A c :=
  h.upd hu (by simp; omega) (by simp; omega) (by simp; omega) (by simp; omega) (by simp; omega) (fun g hg => by have := own_ne_any h.row hb (fun e => hT e.symm) g hg; simpa using this)

/-- What stands behind the call: both states, both messages, and whether anything turned. -/
def DoOut (B b : Nat) (l : Value) (w : World) (k0 k9 : Nat) (d : AccS) (a2 : Option Addr) (n2 c2 : Nat) (x : ActS) (A : Option Addr) (c : Nat) (s12 : Value) (wx : World) : Prop :=
  ∃ (m' : MsgS) (es : List EntS) (l' : Value) (a3 : Option Addr) (n3 c3 : Nat) (ga : Option Addr) (gc : Nat) (wa : Option Addr) (wcap : Nat), s12 = .bool (d.turned (x.run d)) ∧ es.length ≤ 1024 ∧ DoAt B wx k0 k9 d a2 n2 c2 x A c ∧ AccAt B wx b l' (x.run d) ∧ WrUp b l l' w wx ∧
    RefRow B wx (.slice a3 n3 c3) (x.run d).list ∧ wx.ownsRow B 85 4 (.slice ga es.length gc) es.length (entCells es) ∧ RefRow B wx (.slice wa es.length wcap) es ∧
    GotAt wx (k9 + 1) m' (.slice ga es.length gc) ∧ WantAt wx (k9 + 1 + 1) m' (.slice wa es.length wcap) ∧ NextAt wx (k9 + 1 + 1 + 1) (x.run d) (.slice a3 n3 c3)

theorem turned_self (d : AccS) : d.turned d = false := by simp [AccS.turned]
theorem prep_len (d : AccS) (m : MsgS) (now : Int) (h : d.small) : (d.prepare m now).2.2.1.length ≤ 1024 := by
  have := h.above.few
  unfold AccS.prepare
  (repeat' split) <;> first | (simp; done) | (simp only [List.length_drop]; omega)

/-- The program's call has been made and its message stored; so has the document's. -/
theorem do_close {B b k0 k9 n2 c2 c n3 c3 : Nat} {l l' : Value} {w W1 : World} {d : AccS} {a2 A a3 ga wa : Option Addr} {x : ActS} {gc wcap : Nat} {m' : MsgS} {es : List EntS} {ch : Bool} {v0 v1 v2 v3 v4 v5 v6 v7 v8 v9 v10 : Value} {y0 y1 y2 y3 y4 y5 y6 : Value} (hk : k0 + 3 < k9) (hw : w.heap.size ≤ k0)
    (hch : ch = d.turned (x.run d)) (hes : es.length ≤ 1024) (hD : DoAt B W1 k0 k9 d a2 n2 c2 x A c) (hA : AccAt B W1 b l' (x.run d)) (hU : WrUp b l l' w W1)
    (hr : RefRow B W1 (.slice a3 n3 c3) (x.run d).list) (ho : W1.ownsRow B 85 4 (.slice ga es.length gc) es.length (entCells es)) (he : RefRow B W1 (.slice wa es.length wcap) es)
    (hg : GotAt W1 (k9 + 1) m' (.slice ga es.length gc)) (hwt : Blk W1 (k9 + 1 + 1) #[v0, v1, v2, v3, v4, v5, v6, v7, v8, v9, v10] 93) (hnx : Blk W1 (k9 + 1 + 1 + 1) #[y0, y1, y2, y3, y4, y5, y6] 54)
    : ∃ W2 W3, (((((((W1.setCell ⟨k9 + 1 + 1 + 1, 0, none⟩ (.bool (x.run d).wit)).setCell ⟨k9 + 1 + 1 + 1, 1, none⟩ (.int .u64 (x.run d).bal.c)).setCell ⟨k9 + 1 + 1 + 1, 2, none⟩ (.int .i64 (x.run d).bal.n)).setCell ⟨k9 + 1 + 1 + 1, 3, none⟩ (.int .i64 (x.run d).base)).setCell ⟨k9 + 1 + 1 + 1, 4, none⟩ (.slice a3 n3 c3)).setCell ⟨k9 + 1 + 1 + 1, 5, none⟩ (.int .i64 (x.run d).node)).setCell ⟨k9 + 1 + 1 + 1, 6, none⟩ (.int .i64 (x.run d).til)) = W2 ∧
      (((((((((((W2.setCell ⟨k9 + 1 + 1, 0, none⟩ (.int .i64 m'.kind)).setCell ⟨k9 + 1 + 1, 1, none⟩ (.int .i64 m'.frm)).setCell ⟨k9 + 1 + 1, 2, none⟩ (.int .i64 m'.to)).setCell ⟨k9 + 1 + 1, 3, none⟩ (.int .i64 m'.sub)).setCell ⟨k9 + 1 + 1, 4, none⟩ (.int .u64 m'.bal.c)).setCell ⟨k9 + 1 + 1, 5, none⟩ (.int .i64 m'.bal.n)).setCell ⟨k9 + 1 + 1, 6, none⟩ (.int .i64 m'.slot)).setCell ⟨k9 + 1 + 1, 7, none⟩ (.int .i64 m'.time)).setCell ⟨k9 + 1 + 1, 8, none⟩ (.bool m'.okb)).setCell ⟨k9 + 1 + 1, 9, none⟩ (.string m'.text)).setCell ⟨k9 + 1 + 1, 10, none⟩ (.slice wa es.length wcap)) = W3 ∧
      DoOut B b l w k0 k9 d a2 n2 c2 x A c (.bool ch) W3 := by
  obtain ⟨W2, e2, u2, b2⟩ := set7 hnx (.bool (x.run d).wit) (.int .u64 (x.run d).bal.c) (.int .i64 (x.run d).bal.n) (.int .i64 (x.run d).base) (.slice a3 n3 c3) (.int .i64 (x.run d).node) (.int .i64 (x.run d).til)
  have hw2 : Blk W2 (k9 + 1 + 1) _ _ := hwt.upd u2 (by simp)
  obtain ⟨W3, e3, u3, b3⟩ := set11 hw2 (.int .i64 m'.kind) (.int .i64 m'.frm) (.int .i64 m'.to) (.int .i64 m'.sub) (.int .u64 m'.bal.c) (.int .i64 m'.bal.n) (.int .i64 m'.slot) (.int .i64 m'.time) (.bool m'.okb) (.string m'.text) (.slice wa es.length wcap)
  refine ⟨W2, W3, e2, e3, m', es, l', a3, n3, c3, ga, gc, wa, wcap, by rw [hch], hes, (hD.set hnx (by decide) ⟨hk, by omega⟩ u2).set hw2 (by decide) ⟨hk, by omega⟩ u3, (hA.keep hnx (by decide) (by decide) u2).keep hw2 (by decide) (by decide) u3,
    (hU.later u2 (by intro i hi; simp at hi; omega)).later u3 (by intro i hi; simp at hi; omega), own_keep (own_keep hr hnx (by decide) u2) hw2 (by decide) u3, own_keep (own_keep ho hnx (by decide) u2) hw2 (by decide) u3, own_keep (own_keep he hnx (by decide) u2) hw2 (by decide) u3,
    (hg.upd u2 (by simp <;> omega)).upd u3 (by simp <;> omega), b3, b2.upd u3 (by simp)⟩
end Go.Proofs.Ytfhmdeamhmjddaa

/-
  chatelainelaw16.Do, walked (its end). Conditions: numbers that there may be, the acceptor in memory, the document's list in a row of its own.
-/
set_option linter.unusedVariables false
set_option linter.unusedSimpArgs false
set_option maxRecDepth 100000
namespace Go.Proofs.Ytfhmdeamhmjddaa
open Go.RowKit

theorem txt_toList (l : List UInt8) : (txt l).toList = l := by rw [ByteArray.toList_eq]; simp [txt]
theorem arr7 {c : Array Value} (h : c.size = 7) : ∃ a0 a1 a2 a3 a4 a5 a6, c = #[a0, a1, a2, a3, a4, a5, a6] := by
  obtain ⟨l⟩ := c
  match l, h with
  | [a0, a1, a2, a3, a4, a5, a6], _ => exact ⟨a0, a1, a2, a3, a4, a5, a6, rfl⟩
/-- A later world in which one block alone may have turned, and has kept its size. -/
structure Zk (wc W : World) (k T : Nat) : Prop where
  upd : Upd [k] wc W
  blk : ∃ c, Blk W k c T ∧ c.size = 7
theorem unset {W : World} {k T o : Nat} {v : Value} (h : ∃ c, Blk (W.setCell ⟨k, o, none⟩ v) k c T ∧ c.size = 7) : ∃ c, Blk W k c T ∧ c.size = 7 := by
  obtain ⟨c, hb, hs⟩ := h
  simp only [Blk, World.setCell, Array.getElem?_modify] at hb
  rw [if_pos trivial] at hb
  obtain ⟨o', ho, he⟩ := Option.map_eq_some_iff.1 hb
  cases o' with
  | cells c' T' fr =>
    simp at he
    obtain ⟨h1, h2, h3⟩ := he
    subst h2 h3
    exact ⟨c', ho, by rw [← hs, ← h1]; simp⟩
  | _ => simp at he
def cellOf (W : World) (k o : Nat) : Value := (W.cell? ⟨k, o, none⟩).getD undef
theorem Zk.drew {wc W : World} {k T : Nat} (h : Zk wc W k T) : Zk wc W.drew k T := ⟨h.upd.drew, h.blk⟩
theorem Zk.later {wc W W' : World} {k T : Nat} (h : Zk wc W k T) (hu : Upd [] W W') : Zk wc W' k T :=
  ⟨h.upd.trans' hu (by simp), by obtain ⟨c, hb, hs⟩ := h.blk; exact ⟨c, hb.upd hu (by simp), hs⟩⟩
theorem Zk.set {wc W : World} {k T : Nat} (h : Zk wc W k T) (o : Nat) (v : Value) : Zk wc (W.setCell ⟨k, o, none⟩ v) k T :=
  ⟨h.upd.setCell (by simp) v, by obtain ⟨c, hb, hs⟩ := h.blk; exact ⟨_, hb.set o v, by simpa using hs⟩⟩
theorem Zk.frozen {wc W : World} {k T : Nat} (h : Zk wc W k T) (o : Nat) : W.frozen? ⟨k, o, none⟩ = false := by
  obtain ⟨c, hb, hs⟩ := h.blk; exact hb.frozen o
theorem Zk.cell {wc W : World} {k T : Nat} (h : Zk wc W k T) (o : Nat) (ho : o < 7) : W.cell? ⟨k, o, none⟩ = some (cellOf W k o) := by
  obtain ⟨c, hb, hs⟩ := h.blk
  have := hb.cell o
  rw [Array.getElem?_eq_getElem (by omega)] at this
  simp [cellOf, this]

set_option maxHeartbeats 16000000 in
theorem do_any (B b : Nat) (l : Value) (d : AccS) (l2 : Value) (x : ActS) (w : World) (h : AccAt B w b l d) (hr : RefRow B w l2 d.list) (hd' : d.small) (hx : x.small) (hB : B ≤ w.heap.size) :
    Calls Try.prog 24 #[.pointer (some ⟨b, 0, none⟩), .agg (d.cells l2), .agg x.cells] w fun e w' =>
      ∃ l' l3, e = .returned (.tuple #[.agg ((x.run d).cells l3), .bool true]) ∧ AccAt B w' b l' (x.run d) ∧ RefRow B w' l3 (x.run d).list ∧ WrUp b l l' w w' := by
  obtain ⟨a2, c2, rfl, -⟩ := own_open hr
  have HB0 := hd hB
  have HDS := hd hd'
  have HXS := hd hx
  have H := hd h
  have HR := hd hr
  have e4 := four_new w #[.bool d.wit, .int .u64 d.bal.c, .int .i64 d.bal.n, .int .i64 d.base, .slice a2 d.list.length c2, .int .i64 d.node, .int .i64 d.til] #[.int .i64 x.kind, .int .i64 x.frm, .int .i64 x.slot, .int .i64 x.time, .int .i64 x.now, .int .i64 x.long, .int .u64 x.bal.c, .int .i64 x.bal.n, .string x.text] #[.bool false, .int .u64 0, .int .i64 0, .int .i64 0, .slice none 0 0, .int .i64 0, .int .i64 0] #[.int .i64 0, .int .i64 x.frm, .int .i64 0, .int .i64 0, .int .u64 x.bal.c, .int .i64 x.bal.n, .int .i64 x.slot, .int .i64 x.time, .bool false, .string x.text, .slice none 0 0] 54 33 54 93
  have HOWN := hd (fun W => own_any x.msg none 0 W)
  simp only [ActS.msg, MsgS.val, msgC] at HOWN
  rw [show d.cells (.slice a2 d.list.length c2) = #[.bool d.wit, .int .u64 d.bal.c, .int .i64 d.bal.n, .int .i64 d.base, .slice a2 d.list.length c2, .int .i64 d.node, .int .i64 d.til] from rfl]
  rw [show x.cells = #[.int .i64 x.kind, .int .i64 x.frm, .int .i64 x.slot, .int .i64 x.time, .int .i64 x.now, .int .i64 x.long, .int .u64 x.bal.c, .int .i64 x.bal.n, .string x.text] from rfl]
  clear h hr hB hd' hx
  go_enter Try.func24, Try.ntmps24
  go_upto_region 2 with fail
  obtain ⟨W, hW, hu, hA, hB, hC, hD, hsz⟩ := e4
  rw [hW]
  clear hW
  have hdc := hD.cell
  go_upto_region 6 with ((with_reducible refine (HOWN.out W).mono ?_); rintro e W1 ⟨A, c, rfl, hu1⟩; have hac1 := (hA.upd hu1 (by simp)).cell; have hbc1 := (hB.upd hu1 (by simp)).cell; have hlt1 := (hA.upd hu1 (by simp)).lt; have hlt2 := (hB.upd hu1 (by simp)).lt)
  have hlt3 : w.heap.size < W1.heap.size + 1 := by omega
  have hlt4 : w.heap.size < W1.heap.size + 1 + 1 := by omega
  go_upto_block 0 with fail
  obtain ⟨W2, hW2, hu2, hM, hG, hW, hN, hsz2⟩ := four_new W1 #[.int .i64 0, .int .i64 x.frm, .int .i64 0, .int .i64 0, .int .u64 x.bal.c, .int .i64 x.bal.n, .int .i64 x.slot, .int .i64 x.time, .bool false, .string x.text, .slice A 0 c] #[.int .i64 0, .int .i64 0, .int .i64 0, .int .i64 0, .int .u64 0, .int .i64 0, .int .i64 0, .int .i64 0, .bool false, .string ⟨#[]⟩, .slice none 0 0] #[.int .i64 0, .int .i64 0, .int .i64 0, .int .i64 0, .int .u64 0, .int .i64 0, .int .i64 0, .int .i64 0, .bool false, .string ⟨#[]⟩, .slice none 0 0] #[.bool d.wit, .int .u64 d.bal.c, .int .i64 d.bal.n, .int .i64 d.base, .slice a2 d.list.length c2, .int .i64 d.node, .int .i64 d.til] 41 41 93 54
  rw [hW2]
  have HU2 := hd ((hu.trans hu1).trans hu2)
  have HD2 := hd (show DoAt B W2 w.heap.size W1.heap.size d a2 d.list.length c2 x A c from ⟨(hA.upd hu1 (by simp)).upd hu2 (by simp), (hB.upd hu1 (by simp)).upd hu2 (by simp), (hC.upd hu1 (by simp)).upd hu2 (by simp), (hD.upd hu1 (by simp)).upd hu2 (by simp), hM, own_upd HR.out HU2.out (by simp)⟩)
  have HA2 := hd (H.out.later HU2.out)
  have HG2 := hd hG
  have HW2 := hd hW
  have HN2 := hd hN
  have hk09 : w.heap.size + 3 < W1.heap.size := by have := hu1.size; omega
  have HB2 := hd (show B ≤ W2.heap.size by have := HU2.out.size; have := HB0.out; omega)
  clear hlt3 hlt4 hW2 hu hu1 hu2 hA hB hC hD hM hG hW hN hac1 hbc1 hlt1 hlt2 hsz hdc HOWN H
  obtain ⟨k9, hk9⟩ : ∃ k9, k9 = W1.heap.size := ⟨_, rfl⟩
  rw [← hk9] at HD2 HG2 HW2 HN2 hk09 hsz2 ⊢
  clear hk9 W1
  have hyc := HD2.out.a.cell
  have hmc := HD2.out.m.cell
  go_cut [4, 6, 10, 11, 12, 13] from 0 to 93 (fun s4 s6 s10 s11 s12 s13 wx => s4 = .pointer (some ⟨w.heap.size, 0, none⟩) ∧ s6 = .pointer (some ⟨w.heap.size + 1 + 1, 0, none⟩) ∧ s10 = .pointer (some ⟨k9 + 1, 0, none⟩) ∧ s11 = .pointer (some ⟨k9 + 1 + 1, 0, none⟩) ∧ s13 = .pointer (some ⟨k9 + 1 + 1 + 1, 0, none⟩) ∧ DoOut B b l w w.heap.size k9 d a2 d.list.length c2 x A c s12 wx)
  case' first =>
    have hkind : x.kind = 0 ∨ x.kind = 1 ∨ x.kind = 2 ∨ x.kind = 3 ∨ (¬ x.kind = 0 ∧ ¬ x.kind = 1 ∧ ¬ x.kind = 2 ∧ ¬ x.kind = 3) := by omega
    rcases hkind with hk | hk | hk | hk | ⟨hk0, hk1, hk2, hk3⟩
    case' inl =>
      have hrun : x.run d = (d.prepare x.msg x.now).1 := by unfold ActS.run; rw [if_pos hk]
      have hes := prep_len d x.msg x.now HDS.out
      have HP := hd (prog0 B b l d x A c W2 HA2.out HDS.out HXS.out HB2.out)
      have HF := hd (fun W hr hB => ref0 B d (.slice a2 d.list.length c2) x W hr HDS.out HXS.out hB)
      rw [← hrun] at HP HF
      generalize (d.prepare x.msg x.now).2.1 = m' at HP HF
      generalize (d.prepare x.msg x.now).2.2.1 = es at HP HF hes
      clear hrun
      generalize HRD : x.run d = rd at HP HF
      go_wp2_with fail
      refine HP.out.mono ?_
      rintro e W5 ⟨l', ga, gc, rfl, ha, hup, ho⟩
      have HD5 := hd (HD2.out.up HA2.out hup)
      have hg5 := blk_up HG2.out HA2.out (by decide) (by decide) hup
      have hw5 := blk_up HW2.out HA2.out (by decide) (by decide) hup
      have hn5 := blk_up HN2.out HA2.out (by decide) (by decide) hup
      have HUW5 := hd (WrUp.pre HU2.out hup)
      have hgc := hg5.cell
      have hgz := hg5.frozen
      have hs5 := hup.upd.size
      clear HP hyc hmc hup
      go_upto_region 10 with fail
      obtain ⟨W6, e6, u6, b6⟩ := set11 hg5 (.int .i64 m'.kind) (.int .i64 m'.frm) (.int .i64 m'.to) (.int .i64 m'.sub) (.int .u64 m'.bal.c) (.int .i64 m'.bal.n) (.int .i64 m'.slot) (.int .i64 m'.time) (.bool m'.okb) (.string m'.text) (.slice ga es.length gc)
      rw [e6]
      have hs6 := u6.size
      have HD6 := hd (HD5.out.set hg5 (by decide) ⟨hk09, by omega⟩ u6)
      have HA6 := hd (ha.keep hg5 (by decide) (by decide) u6)
      have HU6 := hd (HUW5.out.later u6 (by intro i hi; simp at hi; omega))
      have HO6 := hd (own_keep ho hg5 (by decide) u6)
      have HW6 := hd (hw5.upd u6 (by simp))
      have HN6 := hd (hn5.upd u6 (by simp; try omega))
      have HG6 := hd b6
      have HB6 := hd (show B ≤ W6.heap.size by have := HB2.out; omega)
      have hsc := HD6.out.s.cell
      have hac := HD6.out.a.cell
      have hxc := HD6.out.xm.cell
      clear e6 u6 b6 hg5 hw5 hn5 ha ho hgc hgz hs5 hs6 HD5 HUW5
      go_wp2_with fail
      refine (HF.out W6 HD6.out.row HB6.out).mono ?_
      rintro e W7 ⟨a3, n3, c3, wa, wcap, rfl, hu7, hr7, he7⟩
      have hn7 := HN6.out.upd hu7 (by simp)
      have hw7 := HW6.out.upd hu7 (by simp)
      have hnc := hn7.cell
      have hnz := hn7.frozen
      have hwc := hw7.cell
      have hwz := hw7.frozen
      subst HRD
      have hcl := do_close (b := b) (l := l) (w := w) hk09 (Nat.le_refl _) (d := d) (x := x) rfl hes (HD6.out.later hu7) (HA6.out.later hu7) (HU6.out.later hu7 (by simp)) hr7 (own_upd HO6.out hu7 (by simp)) he7 (HG6.out.upd hu7 (by simp)) hw7 hn7
      have HCL := hd hcl
      have nq1 : ¬ (k9 + 1 + 1 = k9 + 1 + 1 + 1) := by omega
      have nq2 : ¬ (k9 + 1 + 1 + 1 = k9 + 1 + 1) := by omega
      clear hcl hsc hac hxc hu7 hr7 he7 HD6 HA6 HU6 HO6 HG6 HN6 HW6 HF
      go_wp2_with fail
      obtain ⟨W8, W9, e8, e9, hout⟩ := HCL.out
      rw [e8, e9]
      go_meet
      case rel => exact ⟨rfl, rfl, rfl, rfl, rfl, hout⟩
    case' inr.inl =>
      have hrun : x.run d = (d.accept x.msg).1 := by unfold ActS.run; rw [if_neg (by omega), if_pos hk]
      have hes : ([] : List EntS).length ≤ 1024 := by simp
      have HP := hd (prog1 B b l d x A c W2 HA2.out HDS.out HXS.out HB2.out)
      have HF := hd (fun W hr hB => ref1 B d (.slice a2 d.list.length c2) x W hr HDS.out HXS.out hB)
      rw [← hrun] at HP HF
      generalize (d.accept x.msg).2.1 = m' at HP HF
      generalize ([] : List EntS) = es at HP HF hes
      clear hrun
      generalize HRD : x.run d = rd at HP HF
      go_wp2_with fail
      refine HP.out.mono ?_
      rintro e W5 ⟨l', ga, gc, rfl, ha, hup, ho⟩
      have HD5 := hd (HD2.out.up HA2.out hup)
      have hg5 := blk_up HG2.out HA2.out (by decide) (by decide) hup
      have hw5 := blk_up HW2.out HA2.out (by decide) (by decide) hup
      have hn5 := blk_up HN2.out HA2.out (by decide) (by decide) hup
      have HUW5 := hd (WrUp.pre HU2.out hup)
      have hgc := hg5.cell
      have hgz := hg5.frozen
      have hs5 := hup.upd.size
      clear HP hyc hmc hup
      go_upto_region 13 with fail
      obtain ⟨W6, e6, u6, b6⟩ := set11 hg5 (.int .i64 m'.kind) (.int .i64 m'.frm) (.int .i64 m'.to) (.int .i64 m'.sub) (.int .u64 m'.bal.c) (.int .i64 m'.bal.n) (.int .i64 m'.slot) (.int .i64 m'.time) (.bool m'.okb) (.string m'.text) (.slice ga es.length gc)
      rw [e6]
      have hs6 := u6.size
      have HD6 := hd (HD5.out.set hg5 (by decide) ⟨hk09, by omega⟩ u6)
      have HA6 := hd (ha.keep hg5 (by decide) (by decide) u6)
      have HU6 := hd (HUW5.out.later u6 (by intro i hi; simp at hi; omega))
      have HO6 := hd (own_keep ho hg5 (by decide) u6)
      have HW6 := hd (hw5.upd u6 (by simp))
      have HN6 := hd (hn5.upd u6 (by simp; try omega))
      have HG6 := hd b6
      have HB6 := hd (show B ≤ W6.heap.size by have := HB2.out; omega)
      have hsc := HD6.out.s.cell
      have hac := HD6.out.a.cell
      have hxc := HD6.out.xm.cell
      clear e6 u6 b6 hg5 hw5 hn5 ha ho hgc hgz hs5 hs6 HD5 HUW5
      go_wp2_with fail
      refine (HF.out W6 HD6.out.row HB6.out).mono ?_
      rintro e W7 ⟨a3, n3, c3, wa, wcap, rfl, hu7, hr7, he7⟩
      have hn7 := HN6.out.upd hu7 (by simp)
      have hw7 := HW6.out.upd hu7 (by simp)
      have hnc := hn7.cell
      have hnz := hn7.frozen
      have hwc := hw7.cell
      have hwz := hw7.frozen
      subst HRD
      have hcl := do_close (b := b) (l := l) (w := w) hk09 (Nat.le_refl _) (d := d) (x := x) rfl hes (HD6.out.later hu7) (HA6.out.later hu7) (HU6.out.later hu7 (by simp)) hr7 (own_upd HO6.out hu7 (by simp)) he7 (HG6.out.upd hu7 (by simp)) hw7 hn7
      have HCL := hd hcl
      have nq1 : ¬ (k9 + 1 + 1 = k9 + 1 + 1 + 1) := by omega
      have nq2 : ¬ (k9 + 1 + 1 + 1 = k9 + 1 + 1) := by omega
      clear hcl hsc hac hxc hu7 hr7 he7 HD6 HA6 HU6 HO6 HG6 HN6 HW6 HF
      go_wp2_with fail
      obtain ⟨W8, W9, e8, e9, hout⟩ := HCL.out
      rw [e8, e9]
      go_meet
      case rel => exact ⟨rfl, rfl, rfl, rfl, rfl, hout⟩
    case' inr.inr.inl =>
      have hrun : x.run d = (d.ask x.msg x.now x.long).1 := by unfold ActS.run; rw [if_neg (by omega), if_neg (by omega), if_pos hk]
      have hes : ([] : List EntS).length ≤ 1024 := by simp
      have HP := hd (prog2 B b l d x A c W2 HA2.out HDS.out HXS.out)
      have HF := hd (fun W (hr : RefRow B W (.slice a2 d.list.length c2) d.list) (hB : B ≤ W.heap.size) => ref2 B d (.slice a2 d.list.length c2) x W hr HDS.out HXS.out)
      rw [← hrun] at HP HF
      generalize (d.ask x.msg x.now x.long).2.1 = m' at HP HF
      generalize ([] : List EntS) = es at HP HF hes
      clear hrun
      generalize HRD : x.run d = rd at HP HF
      go_wp2_with fail
      refine HP.out.mono ?_
      rintro e W5 ⟨l', ga, gc, rfl, ha, hup, ho⟩
      have HD5 := hd (HD2.out.up HA2.out hup)
      have hg5 := blk_up HG2.out HA2.out (by decide) (by decide) hup
      have hw5 := blk_up HW2.out HA2.out (by decide) (by decide) hup
      have hn5 := blk_up HN2.out HA2.out (by decide) (by decide) hup
      have HUW5 := hd (WrUp.pre HU2.out hup)
      have hgc := hg5.cell
      have hgz := hg5.frozen
      have hs5 := hup.upd.size
      clear HP hyc hmc hup
      go_upto_region 16 with fail
      obtain ⟨W6, e6, u6, b6⟩ := set11 hg5 (.int .i64 m'.kind) (.int .i64 m'.frm) (.int .i64 m'.to) (.int .i64 m'.sub) (.int .u64 m'.bal.c) (.int .i64 m'.bal.n) (.int .i64 m'.slot) (.int .i64 m'.time) (.bool m'.okb) (.string m'.text) (.slice ga es.length gc)
      rw [e6]
      have hs6 := u6.size
      have HD6 := hd (HD5.out.set hg5 (by decide) ⟨hk09, by omega⟩ u6)
      have HA6 := hd (ha.keep hg5 (by decide) (by decide) u6)
      have HU6 := hd (HUW5.out.later u6 (by intro i hi; simp at hi; omega))
      have HO6 := hd (own_keep ho hg5 (by decide) u6)
      have HW6 := hd (hw5.upd u6 (by simp))
      have HN6 := hd (hn5.upd u6 (by simp; try omega))
      have HG6 := hd b6
      have HB6 := hd (show B ≤ W6.heap.size by have := HB2.out; omega)
      have hsc := HD6.out.s.cell
      have hac := HD6.out.a.cell
      have hxc := HD6.out.xm.cell
      clear e6 u6 b6 hg5 hw5 hn5 ha ho hgc hgz hs5 hs6 HD5 HUW5
      go_wp2_with fail
      refine (HF.out W6 HD6.out.row HB6.out).mono ?_
      rintro e W7 ⟨a3, n3, c3, wa, wcap, rfl, hu7, hr7, he7⟩
      have hn7 := HN6.out.upd hu7 (by simp)
      have hw7 := HW6.out.upd hu7 (by simp)
      have hnc := hn7.cell
      have hnz := hn7.frozen
      have hwc := hw7.cell
      have hwz := hw7.frozen
      subst HRD
      have hcl := do_close (b := b) (l := l) (w := w) hk09 (Nat.le_refl _) (d := d) (x := x) rfl hes (HD6.out.later hu7) (HA6.out.later hu7) (HU6.out.later hu7 (by simp)) hr7 (own_upd HO6.out hu7 (by simp)) he7 (HG6.out.upd hu7 (by simp)) hw7 hn7
      have HCL := hd hcl
      have nq1 : ¬ (k9 + 1 + 1 = k9 + 1 + 1 + 1) := by omega
      have nq2 : ¬ (k9 + 1 + 1 + 1 = k9 + 1 + 1) := by omega
      clear hcl hsc hac hxc hu7 hr7 he7 HD6 HA6 HU6 HO6 HG6 HN6 HW6 HF
      go_wp2_with fail
      obtain ⟨W8, W9, e8, e9, hout⟩ := HCL.out
      rw [e8, e9]
      go_meet
      case rel => exact ⟨rfl, rfl, rfl, rfl, rfl, hout⟩
    case' inr.inr.inr.inl =>
      have hrun : x.run d = d.trim x.slot := by unfold ActS.run; rw [if_neg (by omega), if_neg (by omega), if_neg (by omega), if_pos hk]
      have hlen := HDS.out.above.few
      have HP := hd (fun W h hB => trim_any B b l d x.slot W h (by omega) hB)
      have HF := hd (fun W h hB => refTrim_any B d (.slice a2 d.list.length c2) x.slot W h (by omega) hB)
      rw [← hrun] at HP HF
      have HT := hd (show decide (d.base < x.slot) = d.turned (x.run d) by rw [hrun]; exact trim_turned d x.slot HDS.out (by have := HXS.out.slot1; omega))
      clear hrun
      generalize HRD : x.run d = rd at HP HF
      go_wp2_with fail
      refine (HP.out W2 HA2.out HB2.out).mono ?_
      rintro e W5 ⟨l', rfl, ha, hup⟩
      have HD5 := hd (HD2.out.up HA2.out hup)
      have hg5 := blk_up HG2.out HA2.out (by decide) (by decide) hup
      have hw5 := blk_up HW2.out HA2.out (by decide) (by decide) hup
      have hn5 := blk_up HN2.out HA2.out (by decide) (by decide) hup
      have HUW5 := hd (WrUp.pre HU2.out hup)
      have hs5 := hup.upd.size
      have HB5 := hd (show B ≤ W5.heap.size by have := HB2.out; omega)
      have hsc := HD5.out.s.cell
      have hac := HD5.out.a.cell
      have HG5 := hd hg5
      have HW5 := hd hw5
      have HN5 := hd hn5
      have HA5 := hd ha
      clear HP hyc hmc hup hg5 hw5 hn5 ha
      go_wp2_with fail
      refine (HF.out W5 HD5.out.row HB5.out).mono ?_
      rintro e W7 ⟨l3, rfl, hu7, hr7⟩
      obtain ⟨a3, c3, rfl, -⟩ := own_open hr7
      have hn7 := HN5.out.upd hu7 (by simp)
      have hnc := hn7.cell
      have hnz := hn7.frozen
      obtain ⟨W8, e8, u8, b8⟩ := set7 hn7 (.bool rd.wit) (.int .u64 rd.bal.c) (.int .i64 rd.bal.n) (.int .i64 rd.base) (.slice a3 rd.list.length c3) (.int .i64 rd.node) (.int .i64 rd.til)
      have HE8 := hd e8
      subst HRD
      have HO := hd (show DoOut B b l w w.heap.size k9 d a2 d.list.length c2 x A c (.bool (d.turned (x.run d))) W8 from
        ⟨{}, [], l', a3, (x.run d).list.length, c3, none, 0, none, 0, rfl, by simp, (HD5.out.later hu7).set hn7 (by decide) ⟨hk09, by omega⟩ u8, (HA5.out.later hu7).keep hn7 (by decide) (by decide) u8, (HUW5.out.later hu7 (by simp)).later u8 (by intro i hi; simp at hi; omega), own_keep hr7 hn7 (by decide) u8, nil_row _ _ _, nil_row _ _ _, (HG5.out.upd hu7 (by simp)).upd u8 (by simp <;> omega), (HW5.out.upd hu7 (by simp)).upd u8 (by simp <;> omega), b8⟩)
      clear hsc hac hu7 hr7 HD5 HA5 HG5 HN5 HW5 HF e8 u8 b8
      unfold AccS.cells
      go_wp2_with fail
      rw [HE8.out]
      go_meet
      case rel => rw [HT.out]; exact ⟨rfl, rfl, rfl, rfl, rfl, HO.out⟩
    case' inr.inr.inr.inr =>
      have hrun : x.run d = d := by unfold ActS.run; rw [if_neg hk0, if_neg hk1, if_neg hk2, if_neg hk3]
      have HO := hd (show DoOut B b l w w.heap.size k9 d a2 d.list.length c2 x A c (.bool false) W2 from
        ⟨{}, [], l, a2, d.list.length, c2, none, 0, none, 0, by rw [hrun, turned_self], by simp, HD2.out, by rw [hrun]; exact HA2.out, WrUp.pre HU2.out (WrUp.refl _ _ _), by rw [hrun]; exact HD2.out.row, nil_row _ _ _, nil_row _ _ _, HG2.out, HW2.out, by rw [hrun]; exact HN2.out⟩)
      clear hrun
      go_wp2_with fail
      go_meet
      case rel => exact ⟨rfl, rfl, rfl, rfl, rfl, HO.out⟩
  case rest =>
    obtain ⟨rfl, rfl, rfl, rfl, rfl, m', es, l', a3, n3, c3, ga, gc, wa, wcap, rfl, hes, hD, hA, hU, hr, ho, he, hg, hw, hn⟩ := hcut
    have hsm := run_small x d HXS.out HDS.out
    obtain ⟨a4, c4, hq, -⟩ := own_open hr
    simp only [Value.slice.injEq] at hq
    obtain ⟨rfl, rfl, rfl⟩ := hq
    generalize HRD : x.run d = rd at *
    have hW4 : ∀ W, Zk wc W (w.heap.size + 1 + 1) 54 → Zk wc W (w.heap.size + 1 + 1) 54 ∧ (∀ o, W.cell? ⟨w.heap.size, o, none⟩ = #[.bool d.wit, .int .u64 d.bal.c, .int .i64 d.bal.n, .int .i64 d.base, .slice a2 d.list.length c2, .int .i64 d.node, .int .i64 d.til][o]?) ∧
        (∀ o, W.cell? ⟨k9 + 1, o, none⟩ = #[.int .i64 m'.kind, .int .i64 m'.frm, .int .i64 m'.to, .int .i64 m'.sub, .int .u64 m'.bal.c, .int .i64 m'.bal.n, .int .i64 m'.slot, .int .i64 m'.time, .bool m'.okb, .string m'.text, .slice ga es.length gc][o]?) ∧
        (∀ o, W.cell? ⟨k9 + 1 + 1, o, none⟩ = #[.int .i64 m'.kind, .int .i64 m'.frm, .int .i64 m'.to, .int .i64 m'.sub, .int .u64 m'.bal.c, .int .i64 m'.bal.n, .int .i64 m'.slot, .int .i64 m'.time, .bool m'.okb, .string m'.text, .slice wa es.length wcap][o]?) ∧
        (∀ o, W.cell? ⟨k9 + 1 + 1 + 1, o, none⟩ = #[.bool rd.wit, .int .u64 rd.bal.c, .int .i64 rd.bal.n, .int .i64 rd.base, .slice a3 rd.list.length c3, .int .i64 rd.node, .int .i64 rd.til][o]?) ∧
        (∀ o, W.frozen? ⟨w.heap.size + 1 + 1, o, none⟩ = false) ∧ (∀ o, o < 7 → W.cell? ⟨w.heap.size + 1 + 1, o, none⟩ = some (cellOf W (w.heap.size + 1 + 1) o)) := fun W hu =>
      ⟨hu, (hD.s.upd hu.upd (by simp; omega)).cell, (hg.upd hu.upd (by simp; omega)).cell, (hw.upd hu.upd (by simp; omega)).cell, (hn.upd hu.upd (by simp; omega)).cell, hu.frozen, hu.cell⟩
    have HKS := hd hW4
    have HSM := hd (fun W (hu : Zk wc W (w.heap.size + 1 + 1) 54) => same_any m' (.slice ga es.length gc) (.slice wa es.length wcap) es B B W (own_keep ho hD.z (by decide) hu.upd) (own_keep he hD.z (by decide) hu.upd) (by omega))
    have HP1 := hd (fun W (hu : Zk wc W (w.heap.size + 1 + 1) 54) => refPut_any B d (.slice a2 d.list.length c2) W (own_keep hD.row hD.z (by decide) hu.upd) HDS.out)
    have HP2 := hd (fun W (hu : Zk wc W (w.heap.size + 1 + 1) 54) => refPut_any B rd (.slice a3 rd.list.length c3) W (own_keep hr hD.z (by decide) hu.upd) hsm)
    have HZ0 := hd (show Zk wc wc (w.heap.size + 1 + 1) 54 from ⟨Upd.refl _ _, _, hD.z, rfl⟩)
    simp only [MsgS.val, msgC, AccS.cells] at HSM HP1 HP2
    have HT := hd (show AccS.turned d rd = !(d.bytes == rd.bytes) from rfl)
    have HD := hd hD
    have HA := hd hA
    have HUU := hd hU
    have HR3 := hd hr
    have HL0 := hd (show ¬ (w.heap.size = w.heap.size + 1 + 1) by omega)
    clear hW4 hD hA hU hr ho he hg hw hn hsm hes
    go_wp2_with fail
    go_region_held3 (fun W => Zk wc W (w.heap.size + 1 + 1) 54 ∧ (∀ o, W.cell? ⟨w.heap.size, o, none⟩ = #[.bool d.wit, .int .u64 d.bal.c, .int .i64 d.bal.n, .int .i64 d.base, .slice a2 d.list.length c2, .int .i64 d.node, .int .i64 d.til][o]?) ∧
        (∀ o, W.cell? ⟨k9 + 1, o, none⟩ = #[.int .i64 m'.kind, .int .i64 m'.frm, .int .i64 m'.to, .int .i64 m'.sub, .int .u64 m'.bal.c, .int .i64 m'.bal.n, .int .i64 m'.slot, .int .i64 m'.time, .bool m'.okb, .string m'.text, .slice ga es.length gc][o]?) ∧
        (∀ o, W.cell? ⟨k9 + 1 + 1, o, none⟩ = #[.int .i64 m'.kind, .int .i64 m'.frm, .int .i64 m'.to, .int .i64 m'.sub, .int .u64 m'.bal.c, .int .i64 m'.bal.n, .int .i64 m'.slot, .int .i64 m'.time, .bool m'.okb, .string m'.text, .slice wa es.length wcap][o]?) ∧
        (∀ o, W.cell? ⟨k9 + 1 + 1 + 1, o, none⟩ = #[.bool rd.wit, .int .u64 rd.bal.c, .int .i64 rd.bal.n, .int .i64 rd.base, .slice a3 rd.list.length c3, .int .i64 rd.node, .int .i64 rd.til][o]?) ∧
        (∀ o, W.frozen? ⟨w.heap.size + 1 + 1, o, none⟩ = false) ∧ (∀ o, o < 7 → W.cell? ⟨w.heap.size + 1 + 1, o, none⟩ = some (cellOf W (w.heap.size + 1 + 1) o)))
      ((refine HKS.out _ ?_; (try go_split_ands); repeat (first | with_reducible assumption | with_reducible exact HZ0.out | with_reducible refine Zk.drew ?_ | with_reducible refine Zk.set ?_ _ _ | with_reducible refine Zk.later ?_ hu2)))
      (first
      | ((with_reducible refine (HSM.out _ (by go_split_ands; with_reducible assumption)).mono ?_); rintro e w2 ⟨rfl, hu2⟩)
      | ((with_reducible refine (HP1.out _ (by go_split_ands; with_reducible assumption)).mono ?_); rintro e w2 ⟨rfl, hu2⟩)
      | ((with_reducible refine (HP2.out _ (by go_split_ands; with_reducible assumption)).mono ?_); rintro e w2 ⟨rfl, hu2⟩))
    go_wp2_with fail
    have hz : Zk wc (((((((w2.setCell ⟨w.heap.size + 1 + 1, 0, none⟩ (.bool rd.wit)).setCell ⟨w.heap.size + 1 + 1, 1, none⟩ (.int .u64 rd.bal.c)).setCell ⟨w.heap.size + 1 + 1, 2, none⟩ (.int .i64 rd.bal.n)).setCell ⟨w.heap.size + 1 + 1, 3, none⟩ (.int .i64 rd.base)).setCell ⟨w.heap.size + 1 + 1, 4, none⟩ (.slice a3 rd.list.length c3)).setCell ⟨w.heap.size + 1 + 1, 5, none⟩ (.int .i64 rd.node)).setCell ⟨w.heap.size + 1 + 1, 6, none⟩ (.int .i64 rd.til)) (w.heap.size + 1 + 1) 54 := by
      go_split_ands
      with_reducible assumption
    obtain ⟨c0, hb0, hs0⟩ : ∃ c, Blk w2 (w.heap.size + 1 + 1) c 54 ∧ c.size = 7 := unset (unset (unset (unset (unset (unset (unset hz.blk))))))
    obtain ⟨q0, q1, q2, q3, q4, q5, q6, rfl⟩ := arr7 hs0
    obtain ⟨W8, e8, u8, b8⟩ := set7 hb0 (.bool rd.wit) (.int .u64 rd.bal.c) (.int .i64 rd.bal.n) (.int .i64 rd.base) (.slice a3 rd.list.length c3) (.int .i64 rd.node) (.int .i64 rd.til)
    rw [e8] at hz ⊢
    have hu8 : Upd [w.heap.size + 1 + 1] wc W8 := hz.upd
    have HTT : (d.turned rd == !(txt d.bytes).toList == (txt rd.bytes).toList) = true := by
      rw [txt_toList, txt_toList, HT.out]
      simp
    have hbc := b8.cell
    subst HRD
    refine bodyPost_ret (v := .tuple #[.agg #[.bool (x.run d).wit, .int .u64 (x.run d).bal.c, .int .i64 (x.run d).bal.n, .int .i64 (x.run d).base, .slice a3 (x.run d).list.length c3, .int .i64 (x.run d).node, .int .i64 (x.run d).til], .bool true]) (by simp [results, Try.results24, go_sem, hbc, HTT]) rfl ?_
    exact ⟨l', .slice a3 (x.run d).list.length c3, rfl, HA.out.keep HD.out.z (by decide) (by decide) hu8, own_keep HR3.out HD.out.z (by decide) hu8, HUU.out.later hu8 (by intro i hi; simp at hi; omega)⟩
end Go.Proofs.Ytfhmdeamhmjddaa
