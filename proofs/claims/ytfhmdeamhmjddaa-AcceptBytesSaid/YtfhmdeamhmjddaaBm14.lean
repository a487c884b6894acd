/-
  The document's acceptor (chatelaineref16) as bytes: Put, walked. Conditions: numbers that there may be, a list of entries that lies in a row of its own.
-/
import Derived.Test.YtfhmdeamhmjddaaBm13
import Derived.Test.YtfhmdeamhmjddaaPSamex
set_option linter.unusedVariables false
set_option linter.unusedSimpArgs false
set_option maxRecDepth 100000
namespace Go.Proofs.Ytfhmdeamhmjddaa
open Go.RowKit

def balBytes (b : BalS) : List UInt8 := uBytes b.c.toNat ++ nBytes b.n
theorem balBytes_le (b : BalS) : (balBytes b).length ≤ 18 := by
  have h1 := uBytes_le b.c.toNat
  have h2 := nBytes_le b.n
  unfold balBytes
  rw [List.length_append]; omega
theorem refBalPut2_any (b : BalS) (w : World) (hb : b.ok) : Calls Try.prog 59 #[.agg #[.int .u64 b.c, .int .i64 b.n]] w fun e w' => e = .returned (.string (txt (balBytes b))) ∧ Upd [] w w' := by
  have := hb.c0
  have := hb.c1
  have := hb.n1
  have h := refBalPut_any b.c.toNat b.n w (by omega) (by omega)
  rw [show ((b.c.toNat : Nat) : Int) = b.c by omega] at h
  exact h
theorem add_txt (a b : List UInt8) (h : a.length + b.length ≤ 4611686018427387904) : ∀ W : World, (Op.stringOp .add (txt a) (txt b)).run Try.prog W = .ok (.string (txt (a ++ b))) W := fun W => by
  rw [run_string_add_sum _ _ _ (by simp; omega), txt_append]
theorem entBytes_le (e : EntS) (he : e.ok) : (entBytes e).length ≤ 500 := by
  have h1 := nBytes_le e.slot
  have h2 := balBytes_le e.bal
  have h3 := nBytes_le e.text.size
  have h4 := he.text
  unfold balBytes at h2
  unfold entBytes sBytes
  simp only [List.length_append] at *
  rw [size_data']; omega
theorem entsBytes_le (l : List EntS) (h : ∀ e ∈ l, e.ok) : (l.flatMap entBytes).length ≤ 500 * l.length := by
  induction l with
  | nil => simp
  | cons x r ih =>
    have h1 := entBytes_le x (h x (by simp))
    have h2 := ih (fun e he => h e (by simp [he]))
    rw [List.flatMap_cons, List.length_append, List.length_cons]; omega

set_option maxHeartbeats 4000000 in
theorem refPut_any (B : Nat) (d : AccS) (l : Value) (w : World) (h : RefRow B w l d.list) (hd' : d.small) :
    Calls Try.prog 29 #[.agg (d.cells l)] w fun e w' => e = .returned (.string (txt d.bytes)) ∧ Upd [] w w' := by
  have hlen := hd'.above.few
  obtain ⟨a, cap, rfl, hnc, hcm, hac⟩ := own_open2 h
  have H := hd h
  have HBP := hd (fun W => refBalPut2_any d.bal W hd'.bal)
  have HN1 := hd (fun W => refN_any d.base W (by have := hd'.fine.base1; omega))
  have HN2 := hd (fun W => refN_any (d.list.length : Int) W (by omega))
  have HN3 := hd (fun W => refN_any d.node W (by have := hd'.fine.node1; omega))
  have HN4 := hd (fun W => refN_any d.til W (by have := hd'.fine.til1; omega))
  have hl0 := balBytes_le d.bal
  have hl1 := nBytes_le d.base
  have hl2 := nBytes_le (d.list.length : Int)
  have hl3 := nBytes_le d.node
  have hl4 := nBytes_le d.til
  have hs1 := add_txt (balBytes d.bal) (nBytes d.base) (by omega)
  have hs2 := add_txt (balBytes d.bal ++ nBytes d.base) (nBytes (d.list.length : Int)) (by rw [List.length_append]; omega)
  have HE := hd (fun (t : Nat) (ht : t < d.list.length) => hd'.ents d.list[t] (List.getElem_mem _))
  have HTL := hd (fun (t : Nat) => entsBytes_le (d.list.take t) (fun e he => hd'.ents e (List.mem_of_mem_take he)))
  have HBY := hd (show d.bytes = ((balBytes d.bal ++ (nBytes d.base ++ nBytes d.list.length)) ++ d.list.flatMap entBytes) ++ (nBytes d.node ++ nBytes d.til) by unfold AccS.bytes balBytes; simp only [List.append_assoc])
  clear h hd'
  have e2 : ∃ W, w.alloc (.cells #[.bool d.wit, .int .u64 d.bal.c, .int .i64 d.bal.n, .int .i64 d.base, .slice a d.list.length cap, .int .i64 d.node, .int .i64 d.til] 54) = W ∧ Upd [] w W ∧ Blk W w.heap.size #[.bool d.wit, .int .u64 d.bal.c, .int .i64 d.bal.n, .int .i64 d.base, .slice a d.list.length cap, .int .i64 d.node, .int .i64 d.til] 54 := ⟨_, rfl, (Upd.refl _ _).alloc _, Blk.new _ _ _⟩
  rw [show d.cells (.slice a d.list.length cap) = #[.bool d.wit, .int .u64 d.bal.c, .int .i64 d.bal.n, .int .i64 d.base, .slice a d.list.length cap, .int .i64 d.node, .int .i64 d.til] from rfl]
  go_enter Try.func29, Try.ntmps29
  go_wp2_with fail
  obtain ⟨W, hW, hu, hb⟩ := e2
  rw [hW]
  clear hW
  have HSB := hd hb
  have HU := hd hu
  have hc0 : ∀ (y : Later [] W) o, y.world.cell? ⟨w.heap.size, o, none⟩ = #[.bool d.wit, .int .u64 d.bal.c, .int .i64 d.bal.n, .int .i64 d.base, .slice a d.list.length cap, .int .i64 d.node, .int .i64 d.til][o]? := fun y => (y.blk hb (by simp)).cell
  clear hu hb
  refine wp_region_later [] (by kernel_rfl) (by kernel_rfl) ?_
  repeat (go_big_quiet_step (first
    | (go_at_call 59; refine later_call (HBP.out _))
    | (go_at_call 60; refine later_call (HN1.out _))
    | (go_at_call 60; refine later_call (HN2.out _))))
  refine wpQuiet_nil ?_
  intro W1 hu1
  have HU1 := hd (HU.out.trans hu1)
  have HS1 := hd (HSB.out.upd hu1 (by simp))
  have hc1 := HS1.out.cell
  clear hc0 HU HSB hu1 hs1 hs2
  have hlP : (balBytes d.bal ++ (nBytes d.base ++ nBytes (d.list.length : Int))).length ≤ 40 := by simp only [List.length_append]; omega
  generalize balBytes d.bal ++ (nBytes d.base ++ nBytes (d.list.length : Int)) = P at *
  go_wp2_with fail
  go_loopw [3, 21] (fun s3 c wr => ∃ t : Nat, c = .int .i64 t ∧ t ≤ d.list.length ∧ s3 = .string (txt (P ++ (d.list.take t).flatMap entBytes)) ∧ Upd [] w wr ∧ Blk wr w.heap.size #[.bool d.wit, .int .u64 d.bal.c, .int .i64 d.bal.n, .int .i64 d.base, .slice a d.list.length cap, .int .i64 d.node, .int .i64 d.til] 54) (fun _ c _ => d.list.length - (intOf c).toNat)
  case atStart => exact ⟨0, rfl, by omega, by simp, HU1.out, HS1.out⟩
  case round =>
    clear hc1 HU1 HS1
    obtain ⟨t, rfl, ht, rfl, hu, hb⟩ := hrel
    have HU := hd hu
    have HSB := hd hb
    have htl2 := HTL.out t
    rw [List.length_take] at htl2
    have hFl : (P ++ (d.list.take t).flatMap entBytes).length ≤ 40000 := by rw [List.length_append]; omega
    clear htl2
    by_cases htl : t < d.list.length
    · have HR := hd (own_upd H.out hu (by simp))
      obtain ⟨g, cap', hge, hgB, hgl, -, hgc, hgz⟩ := own_cases HR.out (by omega)
      simp only [Value.slice.injEq] at hge
      obtain ⟨rfl, -, rfl⟩ := hge
      obtain ⟨c0, c1, c2, c3⟩ := row_cells hgc t htl
      have htl' : (t : Int) < (d.list.length : Int) := by omega
      have HNX := hd (show P ++ (d.list.take (t + 1)).flatMap entBytes = (P ++ (d.list.take t).flatMap entBytes) ++ entBytes d.list[t] by
        rw [List.take_succ_eq_append_getElem htl, List.flatMap_append]; simp)
      have heo := HE.out t htl
      clear hgc hu hb
      generalize d.list[t]'_ = e at *
      generalize P ++ (d.list.take t).flatMap entBytes = F at *
      have HM1 := hd (fun W => refN_any e.slot W (by have := heo.slot1; omega))
      have HM2 := hd (fun W => refBalPut2_any e.bal W heo.bal)
      have HM3 := hd (fun W => refS_any e.text W (by have := heo.text; omega))
      have hEB : entBytes e = nBytes e.slot ++ (balBytes e.bal ++ sBytes e.text) := by unfold entBytes balBytes; simp only [List.append_assoc]
      have hel := entBytes_le e heo
      rw [hEB] at hel HNX
      have hel2 : (nBytes e.slot ++ balBytes e.bal).length ≤ 500 ∧ (nBytes e.slot).length + (balBytes e.bal).length ≤ 500 := by simp only [List.length_append] at hel ⊢; omega
      have hs1 := add_txt (nBytes e.slot) (balBytes e.bal) (by omega)
      have hs2 := add_txt (nBytes e.slot ++ balBytes e.bal) (sBytes e.text) (by simp only [List.length_append] at hel ⊢; omega)
      have hs3 := add_txt F (nBytes e.slot ++ (balBytes e.bal ++ sBytes e.text)) (by omega)
      have hb' := HSB.out.alloc (.cells #[.int .i64 e.slot, .int .u64 e.bal.c, .int .i64 e.bal.n, .string e.text] 102)
      have hu' := HU.out.alloc (.cells #[.int .i64 e.slot, .int .u64 e.bal.c, .int .i64 e.bal.n, .string e.text] 102)
      have hy := Blk.new wr #[.int .i64 e.slot, .int .u64 e.bal.c, .int .i64 e.bal.n, .string e.text] 102
      clear hel hel2 heo hEB
      go_upto_region 5 with fail
      generalize wr.alloc (.cells #[.int .i64 e.slot, .int .u64 e.bal.c, .int .i64 e.bal.n, .string e.text] 102) = WA at *
      have hc0 : ∀ (y : Later [] WA) o, y.world.cell? ⟨wr.heap.size, o, none⟩ = #[.int .i64 e.slot, .int .u64 e.bal.c, .int .i64 e.bal.n, .string e.text][o]? := fun y => (y.blk hy (by simp)).cell
      have HSA := hd hb'
      have HUA := hd hu'
      clear hb' hu' hy
      refine wp_region_later [] (by kernel_rfl) (by kernel_rfl) ?_
      repeat (go_big_quiet_step (first
        | (go_at_call 59; refine later_call (HM2.out _))
        | (go_at_call 60; refine later_call (HM1.out _))
        | (go_at_call 61; refine later_call (HM3.out _))))
      refine wpQuiet_nil ?_
      intro W2 hu2
      have HU2 := hd (HUA.out.trans hu2)
      have HS2 := hd (HSA.out.upd hu2 (by simp))
      clear hc0 hs1 hs2 hs3 hu2 HSA HUA
      go_wp2_with fail
      go_roundw
      case rel => exact ⟨t + 1, by go_num, by omega, by rw [HNX.out], HU2.out, HS2.out⟩
      case measure => simp [intOf]; omega
    · obtain rfl : t = d.list.length := by omega
      rw [List.take_length] at hFl ⊢
      have hs1 := add_txt (P ++ d.list.flatMap entBytes) (nBytes d.node) (by omega)
      have hs2 := add_txt (P ++ d.list.flatMap entBytes ++ nBytes d.node) (nBytes d.til) (by rw [List.length_append]; omega)
      generalize P ++ d.list.flatMap entBytes = F at *
      have hc0 : ∀ (y : Later [] wr) o, y.world.cell? ⟨w.heap.size, o, none⟩ = #[.bool d.wit, .int .u64 d.bal.c, .int .i64 d.bal.n, .int .i64 d.base, .slice a d.list.length cap, .int .i64 d.node, .int .i64 d.til][o]? := fun y => (y.blk hb (by simp)).cell
      clear hb hu
      go_wp2_with fail
      refine wp_region_later [] (by kernel_rfl) (by kernel_rfl) ?_
      repeat (go_big_quiet_step (first
        | (go_at_call 60; refine later_call (HN3.out _))
        | (go_at_call 60; refine later_call (HN4.out _))))
      refine wpQuiet_nil ?_
      intro W2 hu2
      go_wp2_with fail
      go_ret
      rw [HBY.out]
      exact ⟨rfl, HU.out.trans hu2⟩
end Go.Proofs.Ytfhmdeamhmjddaa

/-
  chatelainelaw10.Own and chatelainelaw16.Same by their printed contracts (print.sh over chatelainelaw16.Same): an empty list, and equal messages. Conditions: those that each theorem states.
-/
set_option linter.unusedVariables false
set_option linter.unusedSimpArgs false
set_option maxRecDepth 100000
namespace Go.Proofs.Ytfhmdeamhmjddaa
open Go.RowKit Go.Proofs.YtfhmdeamhmjddaaW.PrintWords Go.Proofs.YtfhmdeamhmjddaaW.PrintLast Go.Proofs.YtfhmdeamhmjddaaW.PrintMore

def toRef (e : EntS) : PSame.S102 := ⟨e.slot, ⟨e.bal.c, e.bal.n⟩, e.text⟩
def toOwn (e : EntS) : PSame.S85 := ⟨e.slot, ⟨e.bal.c, e.bal.n⟩, e.text⟩

theorem reads_ent {α : Type} {K : World → α → List Value → Prop} {B T : Nat} {w : World} {v : Value} {l : List EntS} (f : EntS → α) (hK : ∀ e : EntS, K w (f e) e.cells) (h : w.ownsRow B T 4 v l.length (entCells l)) :
    ∃ A c, v = .slice A (l.map f).length c ∧ (l.map f).length ≤ c ∧ ReadsRow (K w) 4 w A (l.map f).length (l.map f) := by
  obtain ⟨a, cap, rfl, hnc, hcm, hc⟩ := own_open h
  refine ⟨a, cap, by rw [List.length_map], by rw [List.length_map]; exact hnc, rfl, by rw [List.length_map]; unfold maxLen at hcm; omega, fun hn => ?_⟩
  rw [List.length_map] at hn
  obtain ⟨g, rfl, -, -, hcell, -⟩ := hc hn
  refine ⟨_, rfl, fun j p hj => ?_⟩
  rw [List.getElem?_map] at hj
  obtain ⟨e, he, rfl⟩ := Option.map_eq_some_iff.1 hj
  obtain ⟨hjl, rfl⟩ := List.getElem?_eq_some_iff.1 he
  refine ⟨(l[j]).cells, rfl, hK _, fun i u hu => ?_⟩
  have hi : i < 4 := by
    have := (List.getElem?_eq_some_iff.1 hu).1
    simpa [EntS.cells] using this
  rw [Addr.add_lit, Nat.zero_add, hcell _ (by omega), entCells_get l j hjl i hi]
  exact hu

theorem own_empty (k : Nat) (m : MsgS) : PSame.chatelainelaw10_Own.f (k + 1) m.kind m.frm m.to m.sub m.bal.c m.bal.n m.slot m.time m.okb m.text [] = some (m.kind, m.frm, m.to, m.sub, m.bal.c, m.bal.n, m.slot, m.time, m.okb, m.text, []) := by
  unfold PSame.chatelainelaw10_Own.f
  simp only [PSame.chatelainelaw10_Own.l0]
  rw [if_neg (by simp)]
/-- Own of a message without entries. -/
theorem own_any (m : MsgS) (A : Option Addr) (c : Nat) (w : World) : Calls Try.prog 50 #[m.val (.slice A 0 c)] w fun e w' => ∃ A' c', e = .returned (m.val (.slice A' 0 c')) ∧ Upd [] w w' := by
  refine (PSame.chatelainelaw10_Own.calls 1 m.kind m.frm m.to m.sub m.bal.c m.bal.n m.slot m.time m.okb m.text A c [] _ _ _ _ _ _ _ _ _ _ _ w ⟨rfl, by simp, fun h => absurd h (by simp)⟩ (by simp) (own_empty 0 m)).mono ?_
  rintro e w' ⟨v, rfl, hR, hb⟩
  obtain ⟨A', c', rfl⟩ := Kd.R_slice hR
  exact ⟨A', c', rfl, Upd.of_below hb _⟩

theorem rd_ref (l : List EntS) (j : Nat) (h : j < l.length) : PSame.rd_T102 (l.map toRef) (j : Int) = toRef l[j] := by
  simp [PSame.rd_T102, List.getD, List.getElem?_eq_getElem h]
theorem rd_own (l : List EntS) (j : Nat) (h : j < l.length) : PSame.rd_T85 (l.map toOwn) (j : Int) = toOwn l[j] := by
  simp [PSame.rd_T85, List.getD, List.getElem?_eq_getElem h]
theorem wrap_up {j : Nat} (h : j ≤ 1000000) : wrap64 ((j : Int) + 1) = ((j + 1 : Nat) : Int) := by unfold wrap64; omega

theorem own_loop (m : MsgS) (l : List EntS) (hl : l.length ≤ 100000) : ∀ (r j k : Nat), j + r = l.length → r < k →
    PSame.chatelainelaw10_Own.l0 k (l.map toRef) (l.length : Int) (j : Int) m.kind m.frm m.to m.sub m.bal.c m.bal.n m.slot m.time m.okb m.text ((l.take j).map toOwn) = some (m.kind, m.frm, m.to, m.sub, m.bal.c, m.bal.n, m.slot, m.time, m.okb, m.text, l.map toOwn)
  | 0, j, k, hj, hk => by
    obtain ⟨k, rfl⟩ : ∃ q, k = q + 1 := ⟨k - 1, by omega⟩
    simp only [PSame.chatelainelaw10_Own.l0]
    rw [if_neg (by omega), List.take_of_length_le (by omega)]
  | r + 1, j, k, hj, hk => by
    obtain ⟨k, rfl⟩ : ∃ q, k = q + 1 := ⟨k - 1, by omega⟩
    have ht : (l.take j).map toOwn ++ [toOwn l[j]] = (l.take (j + 1)).map toOwn := by rw [List.take_succ_eq_append_getElem (by omega), List.map_append]; rfl
    simp only [PSame.chatelainelaw10_Own.l0]
    rw [if_pos (by omega), if_pos (by omega), if_pos (by rw [List.length_map]; omega), if_pos (by rw [List.length_map, List.length_take]; omega), wrap_up (by omega), rd_ref l j (by omega)]
    rw [← own_loop m l hl r (j + 1) k (by omega) (by omega), ← ht]
    rfl
theorem ent_loop (l : List EntS) (hl : l.length ≤ 100000) : ∀ (r j k : Nat), j + r = l.length → r < k → PSame.msg_Entry.l0 k (l.map toOwn) (l.map toOwn) (l.length : Int) (j : Int) = some true
  | 0, j, k, hj, hk => by
    obtain ⟨k, rfl⟩ : ∃ q, k = q + 1 := ⟨k - 1, by omega⟩
    simp only [PSame.msg_Entry.l0]
    rw [if_neg (by omega)]
  | r + 1, j, k, hj, hk => by
    obtain ⟨k, rfl⟩ : ∃ q, k = q + 1 := ⟨k - 1, by omega⟩
    simp only [PSame.msg_Entry.l0]
    rw [if_pos (by omega), if_pos (by omega), if_pos (by rw [List.length_map]; omega), if_pos (by rw [List.length_map]; omega), if_neg (by simp), wrap_up (by omega)]
    exact ent_loop l hl r (j + 1) k (by omega) (by omega)
theorem same_true (m : MsgS) (l : List EntS) (hl : l.length ≤ 100000) :
    PSame.chatelainelaw16_Same.f (l.length + 1) m.kind m.frm m.to m.sub m.bal.c m.bal.n m.slot m.time m.okb m.text (l.map toOwn) m.kind m.frm m.to m.sub m.bal.c m.bal.n m.slot m.time m.okb m.text (l.map toRef) = some true := by
  unfold PSame.chatelainelaw16_Same.f PSame.chatelainelaw10_Own.f
  have h1 := own_loop m l hl l.length 0 (l.length + 1) (by omega) (by omega)
  rw [List.length_map]
  have h1' : PSame.chatelainelaw10_Own.l0 (l.length + 1) (l.map toRef) (l.length : Int) 0 m.kind m.frm m.to m.sub m.bal.c m.bal.n m.slot m.time m.okb m.text [] = some (m.kind, m.frm, m.to, m.sub, m.bal.c, m.bal.n, m.slot, m.time, m.okb, m.text, l.map toOwn) := h1
  rw [h1']
  simp only [Option.bind_some]
  unfold PSame.msg_Same.f
  simp only [beq_self_eq_true, Bool.and_self, if_true]
  unfold PSame.msg_Entry.f
  rw [if_pos rfl, List.length_map]
  have h2 := ent_loop l hl l.length 0 (l.length + 1) (by omega) (by omega)
  have h2' : PSame.msg_Entry.l0 (l.length + 1) (l.map toOwn) (l.map toOwn) (l.length : Int) 0 = some true := h2
  rw [h2']
  rfl
/-- Equal messages are the same. -/
theorem same_any (m : MsgS) (v u : Value) (l : List EntS) (B B' : Nat) (w : World) (hv : w.ownsRow B 85 4 v l.length (entCells l)) (hu : RefRow B' w u l) (hl : l.length ≤ 100000) :
    Calls Try.prog 55 #[m.val v, m.val u] w fun e w' => e = .returned (.bool true) ∧ Upd [] w w' := by
  obtain ⟨A, c, rfl, hc, hr⟩ := reads_ent (K := PSame.k85.K) toOwn (fun e => PSame.k85_mk w (toOwn e)) hv
  obtain ⟨A', c', rfl, hc', hr'⟩ := reads_ent (K := PSame.k102.K) toRef (fun e => PSame.k102_mk w (toRef e)) hu
  refine (PSame.chatelainelaw16_Same.calls (l.length + 1) m.kind m.frm m.to m.sub m.bal.c m.bal.n m.slot m.time m.okb m.text A c (l.map toOwn) m.kind m.frm m.to m.sub m.bal.c m.bal.n m.slot m.time m.okb m.text A' c' (l.map toRef) true w hr hc hr' hc' (same_true m l hl)).mono ?_
  rintro e w' ⟨rfl, hb⟩
  exact ⟨rfl, Upd.of_below hb _⟩
end Go.Proofs.Ytfhmdeamhmjddaa

/-
  A call by the program's acceptor and by the document's, side by side: what the calls answer in one form, and how blocks and rows stay. Conditions: those that each theorem states.
-/
set_option linter.unusedVariables false
set_option linter.unusedSimpArgs false
set_option maxRecDepth 100000
namespace Go.Proofs.Ytfhmdeamhmjddaa
open Go.RowKit

theorem own_keep {w w' : World} {B T sz k T' : Nat} {c : Array Value} {v : Value} {n : Nat} {xs : List Value} (h : w.ownsRow B T sz v n xs) (hb : Blk w k c T') (hT : T ≠ T') (hu : Upd [k] w w') : w'.ownsRow B T sz v n xs :=
  own_upd h hu (fun g hg => by have := own_ne_any h hb hT g hg; simpa using this)
theorem AccAt.keep {B b k T : Nat} {l : Value} {d : AccS} {c : Array Value} {w w' : World} (h : AccAt B w b l d) (hb : Blk w k c T) (h1 : T ≠ 76) (h2 : T ≠ 85) (hu : Upd [k] w w') : AccAt B w' b l d :=
  ⟨h.blk.upd hu (by simpa using fun e => blk_ne h.blk hb (fun e' => h1 e'.symm) e), own_keep h.own hb (fun e => h2 e.symm) hu⟩
theorem own_own {w : World} {B T sz B' T' sz' : Nat} {v v' : Value} {n n' : Nat} {xs xs' : List Value} (h : w.ownsRow B T sz v n xs) (h' : w.ownsRow B' T' sz' v' n' xs') (hT : T ≠ T') : ∀ g, v.ownBlock = some g → v'.ownBlock ≠ some g := by
  intro g hg hg'
  rcases h'.2 with ⟨rfl, _⟩ | ⟨g', cap, cur, rfl, hB, hb, _⟩
  · simp [Value.ownBlock] at hg'
  · have : g' = g := by simpa [Value.ownBlock] using hg'
    subst this
    exact own_ne_any h hb hT g' hg rfl
/-- What lies in another kind's row stays while the acceptor turns. -/
theorem own_up {w w' : World} {B b T sz B' : Nat} {l l' : Value} {d : AccS} {v : Value} {n : Nat} {xs : List Value} (h : w.ownsRow B' T sz v n xs) (ha : AccAt B w b l d) (h1 : T ≠ 76) (h2 : T ≠ 85) (hu : WrUp b l l' w w') : w'.ownsRow B' T sz v n xs :=
  own_upd h hu.upd (fun g hg hm => by
    rcases List.mem_cons.1 hm with e | e
    · exact own_ne_any h ha.blk h1 g hg e
    · exact own_own h ha.own h2 g hg (by simpa using e))
theorem blk_up {w w' : World} {B b k T : Nat} {l l' : Value} {d : AccS} {c : Array Value} (h : Blk w k c T) (ha : AccAt B w b l d) (h1 : T ≠ 76) (h2 : T ≠ 85) (hu : WrUp b l l' w w') : Blk w' k c T :=
  h.upd hu.upd (fun hm => by
    rcases List.mem_cons.1 hm with e | e
    · exact blk_ne h ha.blk h1 e
    · exact own_ne_any ha.own h (fun e' => h2 e'.symm) k (by simpa using e) rfl)
theorem WrUp.later {b : Nat} {l l' : Value} {a w1 w2 : World} {M : List Nat} (h : WrUp b l l' a w1) (hu : Upd M w1 w2) (hM : ∀ i ∈ M, a.heap.size ≤ i) : WrUp b l l' a w2 :=
  ⟨h.upd.trans' hu (fun i hi => .inr (hM i hi)), h.row⟩
theorem WrUp.pre {b : Nat} {l l' : Value} {a w1 w2 : World} (hu : Upd [] a w1) (h : WrUp b l l' w1 w2) : WrUp b l l' a w2 :=
  ⟨(hu.mono (by simp)).trans h.upd, fun g hg => (h.row g hg).imp id (fun e => Nat.le_trans hu.size e)⟩

/-- A call of small numbers. -/
structure ActS.small (x : ActS) : Prop where
  frm0 : 0 ≤ x.frm
  frm1 : x.frm < 12
  slot0 : 0 ≤ x.slot
  slot1 : x.slot < 256
  time0 : 0 ≤ x.time
  time1 : x.time < 65536
  now0 : 0 ≤ x.now
  now1 : x.now < 65536
  long0 : 0 ≤ x.long
  long1 : x.long < 65536
  text : x.text.size ≤ 30
  bal : x.bal.ok
def ActS.msg (x : ActS) : MsgS := { frm := x.frm, bal := x.bal, slot := x.slot, time := x.time, text := x.text }
/-- What a call makes of a state. -/
def ActS.run (x : ActS) (d : AccS) : AccS :=
  if x.kind = 0 then (d.prepare x.msg x.now).1 else if x.kind = 1 then (d.accept x.msg).1 else if x.kind = 2 then (d.ask x.msg x.now x.long).1 else if x.kind = 3 then d.trim x.slot else d
theorem ActS.small.msgOk {x : ActS} (h : x.small) : x.msg.small := by
  have := h.frm0; have := h.frm1; have := h.slot0; have := h.slot1; have := h.text
  exact ⟨⟨h.slot0, by simp only [ActS.msg]; omega, ⟨h.frm0, by simp only [ActS.msg]; omega⟩, by simp only [ActS.msg]; omega⟩, h.bal, by simp only [ActS.msg]; omega⟩
theorem run_small (x : ActS) (d : AccS) (hx : x.small) (hd : d.small) : (x.run d).small := by
  have := hx.frm0; have := hx.frm1; have := hx.now0; have := hx.now1; have := hx.long0; have := hx.long1; have := hx.slot1
  unfold ActS.run
  split
  · exact prepare_small d x.msg x.now hd hx.msgOk
  · split
    · exact accept_small d x.msg hd hx.msgOk
    · split
      · exact ask_small d x.msg x.now x.long hd hx.msgOk ⟨by simp only [ActS.msg]; omega, by simp only [ActS.msg]; omega⟩ ⟨by omega, by omega⟩ ⟨by omega, by omega⟩
      · split
        · exact trim_small d x.slot hd (by omega)
        · exact hd

/-- What a call of the program's acceptor leaves. -/
def ProgOut (B b : Nat) (l : Value) (w : World) (d' : AccS) (m' : MsgS) (es : List EntS) (ch : Bool) (e : Ending) (w' : World) : Prop :=
  ∃ l' a' c', e = .returned (.tuple #[.agg #[.int .i64 m'.kind, .int .i64 m'.frm, .int .i64 m'.to, .int .i64 m'.sub, .int .u64 m'.bal.c, .int .i64 m'.bal.n, .int .i64 m'.slot, .int .i64 m'.time, .bool m'.okb, .string m'.text, .slice a' es.length c'], .bool ch]) ∧
    AccAt B w' b l' d' ∧ WrUp b l l' w w' ∧ w'.ownsRow B 85 4 (.slice a' es.length c') es.length (entCells es)
/-- What the document's leaves. -/
def RefOut (B : Nat) (w : World) (d' : AccS) (m' : MsgS) (es : List EntS) (e : Ending) (w' : World) : Prop :=
  ∃ a2 n2 c2 a' c', e = .returned (.tuple #[.agg #[.bool d'.wit, .int .u64 d'.bal.c, .int .i64 d'.bal.n, .int .i64 d'.base, .slice a2 n2 c2, .int .i64 d'.node, .int .i64 d'.til], .agg #[.int .i64 m'.kind, .int .i64 m'.frm, .int .i64 m'.to, .int .i64 m'.sub, .int .u64 m'.bal.c, .int .i64 m'.bal.n, .int .i64 m'.slot, .int .i64 m'.time, .bool m'.okb, .string m'.text, .slice a' es.length c']]) ∧
    Upd [] w w' ∧ RefRow B w' (.slice a2 n2 c2) d'.list ∧ RefRow B w' (.slice a' es.length c') es

theorem nil_row {w : World} (B T sz : Nat) : w.ownsRow B T sz (.slice none 0 0) (([] : List EntS).length) (entCells []) := World.ownsRow_nil _ _ _ _
theorem up_of {b : Nat} {l : Value} {w w' : World} (h : Upd [b] w w') : WrUp b l l w w' := ⟨h.mono (by simp), fun g hg => .inl hg⟩

theorem prog0 (B b : Nat) (l : Value) (d : AccS) (x : ActS) (A : Option Addr) (c : Nat) (w : World) (h : AccAt B w b l d) (hd : d.small) (hx : x.small) (hB : B ≤ w.heap.size) :
    Calls Try.prog 16 #[.pointer (some ⟨b, 0, none⟩), x.msg.val (.slice A 0 c), .int .i64 x.now] w (ProgOut B b l w (d.prepare x.msg x.now).1 (d.prepare x.msg x.now).2.1 (d.prepare x.msg x.now).2.2.1 (d.turned (d.prepare x.msg x.now).1)) := by
  have := hx.now0; have := hx.now1
  have hm := hx.msgOk
  refine (prepare_any B b l d x.msg A 0 c x.now w h hd.fine hm.ok.slotIn hm.ok.frm ⟨by omega, by omega⟩).mono ?_
  rintro e w' ⟨v', rfl, hu, ha, ho⟩
  obtain ⟨a', c', rfl, -⟩ := own_open ho
  rw [← prepare_turned d x.msg x.now hd hm]
  exact ⟨l, a', c', rfl, ha, up_of hu, own_mono ho hB⟩
theorem prog1 (B b : Nat) (l : Value) (d : AccS) (x : ActS) (A : Option Addr) (c : Nat) (w : World) (h : AccAt B w b l d) (hd : d.small) (hx : x.small) (hB : B ≤ w.heap.size) :
    Calls Try.prog 17 #[.pointer (some ⟨b, 0, none⟩), x.msg.val (.slice A 0 c)] w (ProgOut B b l w (d.accept x.msg).1 (d.accept x.msg).2.1 [] (d.turned (d.accept x.msg).1)) := by
  have hm := hx.msgOk
  refine (accept_any B b l d x.msg A 0 c w h hd.fine hm.ok.slotIn hm.ok.text hB).mono ?_
  rintro e w' ⟨l', rfl, ha, hu⟩
  rw [← accept_turned d x.msg hd hm]
  exact ⟨l', none, 0, rfl, ha, hu, nil_row _ _ _⟩
theorem prog2 (B b : Nat) (l : Value) (d : AccS) (x : ActS) (A : Option Addr) (c : Nat) (w : World) (h : AccAt B w b l d) (hd : d.small) (hx : x.small) :
    Calls Try.prog 18 #[.pointer (some ⟨b, 0, none⟩), x.msg.val (.slice A 0 c), .int .i64 x.now, .int .i64 x.long] w (ProgOut B b l w (d.ask x.msg x.now x.long).1 (d.ask x.msg x.now x.long).2.1 [] (d.turned (d.ask x.msg x.now x.long).1)) := by
  have := hx.now0; have := hx.now1; have := hx.long0; have := hx.long1; have := hx.frm0; have := hx.frm1
  have hm := hx.msgOk
  have hfr : 0 ≤ x.msg.frm ∧ x.msg.frm < 1099511627776 := ⟨by simp only [ActS.msg]; omega, by simp only [ActS.msg]; omega⟩
  refine (ask_any B b l d x.msg A 0 c x.now x.long w h hd.fine hm.ok.frm ⟨by omega, by omega⟩ ⟨by omega, by omega⟩).mono ?_
  rintro e w' ⟨rfl, hu, ha⟩
  rw [← ask_turned d x.msg x.now x.long hd hm hfr ⟨by omega, by omega⟩ ⟨by omega, by omega⟩]
  exact ⟨l, none, 0, rfl, ha, up_of hu, nil_row _ _ _⟩
theorem ref0 (B : Nat) (d : AccS) (l : Value) (x : ActS) (w : World) (h : RefRow B w l d.list) (hd : d.small) (hx : x.small) (hB : B ≤ w.heap.size) :
    Calls Try.prog 51 #[.agg (d.cells l), x.msg.val (.slice none 0 0), .int .i64 x.now] w (RefOut B w (d.prepare x.msg x.now).1 (d.prepare x.msg x.now).2.1 (d.prepare x.msg x.now).2.2.1) := by
  have := hx.now0; have := hx.now1
  have hm := hx.msgOk
  refine (refPrepare_any B d l x.msg none 0 0 x.now w h hd.fine hm.ok.frm ⟨by omega, by omega⟩).mono ?_
  rintro e w' ⟨v', rfl, hu, ho⟩
  obtain ⟨a', c', rfl, -⟩ := own_open ho
  obtain ⟨a2, c2, rfl, -⟩ := own_open h
  refine ⟨a2, d.list.length, c2, a', c', rfl, hu, ?_, own_mono ho hB⟩
  have hl : (d.prepare x.msg x.now).1.list = d.list := by unfold AccS.prepare; (repeat' split) <;> rfl
  rw [hl]
  exact own_upd h hu (by simp)
theorem ref1 (B : Nat) (d : AccS) (l : Value) (x : ActS) (w : World) (h : RefRow B w l d.list) (hd : d.small) (hx : x.small) (hB : B ≤ w.heap.size) :
    Calls Try.prog 52 #[.agg (d.cells l), x.msg.val (.slice none 0 0)] w (RefOut B w (d.accept x.msg).1 (d.accept x.msg).2.1 []) := by
  have hm := hx.msgOk
  refine (refAccept_any B d l x.msg none 0 0 w h hd.fine hm.ok.text hB).mono ?_
  rintro e w' ⟨l', rfl, hu, ho⟩
  rw [refAccept_eq d x.msg hd.fine hd.above] at ho ⊢
  obtain ⟨a2, c2, rfl, -⟩ := own_open ho
  exact ⟨a2, _, c2, none, 0, rfl, hu, ho, nil_row _ _ _⟩
theorem ref2 (B : Nat) (d : AccS) (l : Value) (x : ActS) (w : World) (h : RefRow B w l d.list) (hd : d.small) (hx : x.small) :
    Calls Try.prog 53 #[.agg (d.cells l), x.msg.val (.slice none 0 0), .int .i64 x.now, .int .i64 x.long] w (RefOut B w (d.ask x.msg x.now x.long).1 (d.ask x.msg x.now x.long).2.1 []) := by
  have := hx.now0; have := hx.now1; have := hx.long0; have := hx.long1
  have hm := hx.msgOk
  obtain ⟨a2, c2, rfl, -⟩ := own_open h
  refine (refAsk_any d a2 d.list.length c2 x.msg none 0 0 x.now x.long w hd.fine hm.ok.frm ⟨by omega, by omega⟩ ⟨by omega, by omega⟩).mono ?_
  rintro e w' ⟨rfl, hu⟩
  refine ⟨a2, d.list.length, c2, none, 0, rfl, hu, ?_, nil_row _ _ _⟩
  have hl : (d.ask x.msg x.now x.long).1.list = d.list := by unfold AccS.ask; simp only; (repeat' split) <;> rfl
  rw [hl]
  exact own_upd h hu (by simp)

theorem set11 {w : World} {k T : Nat} {a0 a1 a2 a3 a4 a5 a6 a7 a8 a9 a10 : Value} (h : Blk w k #[a0, a1, a2, a3, a4, a5, a6, a7, a8, a9, a10] T) (v0 v1 v2 v3 v4 v5 v6 v7 v8 v9 v10 : Value) :
    ∃ W, (((((((((((w.setCell ⟨k, 0, none⟩ v0).setCell ⟨k, 1, none⟩ v1).setCell ⟨k, 2, none⟩ v2).setCell ⟨k, 3, none⟩ v3).setCell ⟨k, 4, none⟩ v4).setCell ⟨k, 5, none⟩ v5).setCell ⟨k, 6, none⟩ v6).setCell ⟨k, 7, none⟩ v7).setCell ⟨k, 8, none⟩ v8).setCell ⟨k, 9, none⟩ v9).setCell ⟨k, 10, none⟩ v10) = W ∧ Upd [k] w W ∧ Blk W k #[v0, v1, v2, v3, v4, v5, v6, v7, v8, v9, v10] T :=
  ⟨_, rfl, upd_msg w k v0 v1 v2 v3 v4 v5 v6 v7 v8 v9 v10, blk_msg h v0 v1 v2 v3 v4 v5 v6 v7 v8 v9 v10⟩
theorem set7 {w : World} {k T : Nat} {a0 a1 a2 a3 a4 a5 a6 : Value} (h : Blk w k #[a0, a1, a2, a3, a4, a5, a6] T) (v0 v1 v2 v3 v4 v5 v6 : Value) :
    ∃ W, (((((((w.setCell ⟨k, 0, none⟩ v0).setCell ⟨k, 1, none⟩ v1).setCell ⟨k, 2, none⟩ v2).setCell ⟨k, 3, none⟩ v3).setCell ⟨k, 4, none⟩ v4).setCell ⟨k, 5, none⟩ v5).setCell ⟨k, 6, none⟩ v6) = W ∧ Upd [k] w W ∧ Blk W k #[v0, v1, v2, v3, v4, v5, v6] T := by
  have h0 : Blk _ k #[v0, a1, a2, a3, a4, a5, a6] T := h.set 0 v0
  have h1 : Blk _ k #[v0, v1, a2, a3, a4, a5, a6] T := h0.set 1 v1
  have h2 : Blk _ k #[v0, v1, v2, a3, a4, a5, a6] T := h1.set 2 v2
  have h3 : Blk _ k #[v0, v1, v2, v3, a4, a5, a6] T := h2.set 3 v3
  have h4 : Blk _ k #[v0, v1, v2, v3, v4, a5, a6] T := h3.set 4 v4
  have h5 : Blk _ k #[v0, v1, v2, v3, v4, v5, a6] T := h4.set 5 v5
  have h6 : Blk _ k #[v0, v1, v2, v3, v4, v5, v6] T := h5.set 6 v6
  have hx := Upd.refl [k] w
  exact ⟨_, rfl, (by repeat (first | with_reducible exact hx | with_reducible exact Upd.refl _ _ | with_reducible refine Upd.alloc ?_ _ | with_reducible refine Upd.drew ?_ | with_reducible refine Upd.setCell ?_ (by first | (simp; done) | (simp; omega)) _)), h6⟩
end Go.Proofs.Ytfhmdeamhmjddaa
