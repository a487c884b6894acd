/-
  seal.Scan over a log's frames, walked. Conditions: records of sizes that there are; what stands behind them is no frame.
-/
import Derived.Test.YtjaoiaknglnomaaWm14
import Derived.Deep.AppendLies
import Derived.Maps.AppendAt
import Derived.Test.YtjaoiaknglnomaaWm0
set_option linter.unusedVariables false
set_option linter.unusedSimpArgs false
set_option maxRecDepth 100000
namespace Go.Proofs.Ytjaoiaknglnomaa
open Go.RowKit

/-- A generation's records as bytes. -/
def encL (g : Nat) (l : List (List UInt8)) : List UInt8 := l.flatMap (spellL g)
/-- What is in a record's frame. -/
def inB (g : Nat) (t : List UInt8) : List UInt8 := uBytes g ++ (nBytes t.length ++ t)
theorem spell_in (g : Nat) (t : List UInt8) : spellL g t = frameL 1 (inB g t) := rfl
theorem in_len (g : Nat) (t : List UInt8) (ht : t.length ≤ 262144) : (inB g t).length ≤ 262180 := by
  have h1 := uBytes_le g
  have h2 := nBytes_le (t.length : Int)
  simp only [inB, List.length_append]
  omega
theorem spell_len (g : Nat) (t : List UInt8) : (spellL g t).length = (inB g t).length + 8 := frame_len 1 _
theorem openL_app (s r : List UInt8) (hs : s.length ≤ 1048576) : openL (frameL 1 s ++ r) = (1, s, 0) := by
  have hw := wideOf_length s.length 3
  have hw4 := wideOf_length (sumN (bodyL 1 s)) 4
  have hn : numOf ((wideOf s.length 3)) = s.length := by rw [numOf_wide]; exact Nat.mod_eq_of_lt (by omega)
  have hl : (frameL 1 s ++ r).length = s.length + 8 + r.length := by rw [List.length_append, frame_len]
  have e1 : ((frameL 1 s ++ r).drop 1).take 3 = wideOf s.length 3 := by
    simp only [frameL, bodyL, List.cons_append, List.drop_succ_cons, List.drop_zero, List.append_assoc]
    exact take_is _ _ 3 hw
  have e2 : (frameL 1 s ++ r).headD 0 = 1 := rfl
  have hlb : (bodyL 1 s).length = 4 + s.length := by rw [body_len]; omega
  have e3 : (frameL 1 s ++ r).take (4 + s.length) = bodyL 1 s := by
    unfold frameL
    rw [List.append_assoc]
    exact take_is _ _ _ hlb
  have e4 : ((frameL 1 s ++ r).drop (4 + s.length)).take 4 = wideOf (sumN (bodyL 1 s)) 4 := by
    have : (frameL 1 s ++ r).drop (4 + s.length) = wideOf (sumN (bodyL 1 s)) 4 ++ r := by
      unfold frameL
      rw [List.append_assoc]
      exact drop_is _ _ _ hlb
    rw [this]
    exact take_is _ _ 4 hw4
  have e5 : ((frameL 1 s ++ r).drop 4).take s.length = s := by
    have : (frameL 1 s ++ r).drop 4 = s ++ (wideOf (sumN (bodyL 1 s)) 4 ++ r) := by
      have q : frameL 1 s ++ r = (1 :: wideOf s.length 3) ++ (s ++ (wideOf (sumN (bodyL 1 s)) 4 ++ r)) := by simp [frameL, bodyL]
      rw [q]
      exact drop_is _ _ _ (by simp [wideOf_length])
    rw [this]
    exact take_is _ _ _ rfl
  have e6 : numOf (wideOf (sumN (bodyL 1 s)) 4) = sumN (bodyL 1 s) := by
    rw [numOf_wide]
    exact Nat.mod_eq_of_lt (sumN_lt _)
  unfold openL
  rw [if_neg (by omega), e2, if_neg (by decide), e1]
  simp only [hn]
  rw [if_neg (by omega), if_neg (by omega), e3, e4, e6, e5, if_pos rfl]
theorem enc_take_succ (g : Nat) (l : List (List UInt8)) (t : Nat) (ht : t < l.length) : encL g (l.take (t + 1)) = encL g (l.take t) ++ spellL g l[t] := by
  unfold encL
  rw [List.take_succ_eq_append_getElem ht, List.flatMap_append, List.flatMap_cons, List.flatMap_nil, List.append_nil]
theorem enc_drop (g : Nat) (l : List (List UInt8)) (t : Nat) (ht : t < l.length) : encL g (l.drop t) = spellL g l[t] ++ encL g (l.drop (t + 1)) := by
  unfold encL
  rw [List.drop_eq_getElem_cons ht, List.flatMap_cons]
theorem enc_split (g : Nat) (l : List (List UInt8)) (t : Nat) : encL g l = encL g (l.take t) ++ encL g (l.drop t) := by
  unfold encL
  rw [← List.flatMap_append, List.take_append_drop]
theorem enc_at (g : Nat) (l : List (List UInt8)) (t : Nat) (J : List UInt8) : (encL g l ++ J).drop (encL g (l.take t)).length = encL g (l.drop t) ++ J := by
  rw [enc_split g l t, List.append_assoc]
  exact drop_is _ _ _ rfl
theorem enc_take_le (g : Nat) (l : List (List UInt8)) (t : Nat) : (encL g (l.take t)).length ≤ (encL g l).length := by
  rw [enc_split g l t, List.length_append]; omega

def partCells (l : List (List UInt8)) : List Value := l.flatMap fun i => [.int .u8 1, .string (txt i)]
theorem partCells_length (l : List (List UInt8)) : (partCells l).length = l.length * 2 := by
  induction l with
  | nil => rfl
  | cons x r ih => simp only [partCells, List.flatMap_cons, List.length_append, List.length_cons] at *; simp at *; omega
theorem partCells_get : ∀ (l : List (List UInt8)) (t : Nat) (ht : t < l.length), (partCells l)[t * 2]? = some (.int .u8 1) ∧ (partCells l)[t * 2 + 1]? = some (.string (txt l[t]))
  | x :: r, 0, _ => ⟨rfl, rfl⟩
  | x :: r, t + 1, h => by
    have ih := partCells_get r t (by simpa using h)
    have e : partCells (x :: r) = .int .u8 1 :: .string (txt x) :: partCells r := rfl
    rw [e, show (t + 1) * 2 = t * 2 + 1 + 1 by omega, List.getElem?_cons_succ, List.getElem?_cons_succ, List.getElem?_cons_succ, List.getElem?_cons_succ, List.getElem_cons_succ]
    exact ih
theorem Try.infoPart : (Try.prog.info? 143).map (fun i => (i.zero, i.size, i.bytes)) = some (some (.agg #[.int .u8 0, .string ⟨#[]⟩]), 2, 24) := by kernel_rfl
abbrev PartRow (B : Nat) (w : World) (v : Value) (l : List (List UInt8)) : Prop := w.ownsRow B 143 2 v l.length (partCells l)

/-- One frame's content appended. -/
theorem partAppend {ops : Array Oper} {rest : List Oper} {o : Oper} {a : Act} {w : World} {Q : Exit → Act → World → Prop} (hgd : o.guard = none) (s x : Operand)
    (ho : o.op = .call { callee := .builtin .append, args := #[s, x], argTypes := #[140, 140] })
    (B : Nat) (v : Value) (l : List (List UInt8)) (e : List UInt8) (hs : a.eval s = v) (hown : PartRow B w v l) (k : Nat) (hx : a.eval x = .slice (some ⟨k, 0, none⟩) 1 1) (hb : Blk w k #[.int .u8 1, .string (txt e)] 143)
    (hl : l.length ≤ 1000000) (hB : B ≤ w.heap.size)
    (h : ∀ v' w', PartRow B w' v' (l ++ [e]) → Upd v.ownBlock.toList w w' → (v'.ownBlock = v.ownBlock ∨ v'.ownBlock = some w.heap.size) → wpList Try.prog ops Q rest (a.put o.dst v') w') : wpList Try.prog ops Q (o :: rest) a w := by
  obtain ⟨i0, hinf, hz0, hz1, hz2⟩ := info_parts Try.infoPart
  refine wpList_append_own_at w hgd s x 140 ho B 143 i0 _ 2 24 Try.underlying140 hinf hz0 hz1 hz2 rfl (by decide) v l.length (partCells l) hs hown ⟨k, 0, none⟩ 1 1 [.int .u8 1, .string (txt e)] hx rfl (fun j u hj => by rw [Addr.add_lit, Nat.zero_add, Blk.cell hb j]; simpa using hj)
    (by intro u hu; simp only [List.mem_cons, List.not_mem_nil, or_false] at hu; rcases hu with rfl | rfl <;> rfl) (by unfold maxLen; omega) (by omega) hB ?_
  intro v' w' hown' hgr _ hat
  refine h v' w' ?_ (Upd.of_grown hgr) hat
  unfold PartRow
  rw [List.length_append]
  have e3 : partCells (l ++ [e]) = partCells l ++ [.int .u8 1, .string (txt e)] := by simp [partCells]
  rw [e3]
  exact hown'

set_option maxHeartbeats 4000000 in
theorem scan_any (g : Nat) (l : List (List UInt8)) (J : List UInt8) (w : World) (hl : ∀ t ∈ l, t.length ≤ 262144) (hj : (openL J).2.2 ≠ 0) (hn : l.length ≤ 100000) (hJ : (encL g l ++ J).length ≤ 1099511627776) :
    Calls Try.prog 83 #[.string (txt (encL g l ++ J))] w fun x w' => ∃ v, x = .returned (.tuple #[v, .int .i64 ((encL g l).length : Nat)]) ∧ Upd [] w w' ∧ PartRow w.heap.size w' v (l.map (inB g)) := by
  have HOP := hd (fun (t : Nat) (W : World) => open_any (encL g (l.drop t) ++ J) W (by
    have := enc_at g l t J
    have h2 := congrArg List.length this
    rw [List.length_drop] at h2
    omega))
  have HAT := hd (fun t => enc_at g l t J)
  have HLE := hd (fun t => (show (encL g (l.take t)).length ≤ (encL g l ++ J).length by have := enc_take_le g l t; rw [List.length_append]; omega))
  generalize encL g l ++ J = S at *
  go_enter Try.func83, Try.ntmps83
  go_wp2_with fail
  go_loopw [4, 5] (fun v a wr => ∃ t : Nat, t ≤ l.length ∧ a = .int .i64 ((encL g (l.take t)).length : Nat) ∧ Upd [] w wr ∧ PartRow w.heap.size wr v ((l.map (inB g)).take t)) (fun _ a _ => (encL g l).length + 1 - (intOf a).toNat)
  case atStart => exact ⟨0, Nat.zero_le _, rfl, Upd.refl _ _, World.ownsRow_nil _ _ _ _⟩
  case round =>
    obtain ⟨t, ht, rfl, hu, hp⟩ := hrel
    have HU := hd hu
    have HP := hd hp
    have hle := enc_take_le g l t
    have htl := HLE.out t
    have hx := txt_tail S (encL g (l.take t)).length
    rw [HAT.out t] at hx
    clear hu hp
    by_cases htn : t < l.length
    · have HED := hd (enc_drop g l t htn)
      have HTS := hd (show (encL g (l.take (t + 1))).length = (encL g (l.take t)).length + ((inB g l[t]).length + 8) by rw [enc_take_succ g l t htn, List.length_append, spell_len])
      have hle2 := enc_take_le g l (t + 1)
      have htl2 := HLE.out (t + 1)
      have HTM := hd (show (l.map (inB g)).take (t + 1) = (l.map (inB g)).take t ++ [inB g l[t]] by rw [List.take_succ_eq_append_getElem (by simpa using htn), List.getElem_map])
      have hil := in_len g l[t] (hl _ (List.getElem_mem _))
      have HOL := hd (show openL (encL g (l.drop t) ++ J) = (1, inB g l[t], 0) by rw [HED.out, List.append_assoc, spell_in]; exact openL_app _ _ (by omega))
      have hml : ((l.map (inB g)).take t).length = t := by rw [List.length_take, List.length_map]; omega
      have hopt := hd (HOP.out t wr)
      rw [HOL.out] at hopt
      clear HED
      generalize inB g l[t] = I at *
      rw [HTS.out] at hle2 htl2
      generalize hA : (encL g (l.take t)).length = A at *
      have hA := hd hA
      go_wp2_with fail
      refine hopt.out.mono ?_
      rintro x w1 ⟨rfl, hu1⟩
      have HU1 := hd (HU.out.trans hu1)
      have HP1 := hd (own_upd HP.out hu1 (by simp))
      have hs1 := HU1.out.size
      clear hu1
      go_wp2_with (at_builtin; refine partAppend rfl (.tmp 21) (.tmp 25) rfl w.heap.size _ ((l.map (inB g)).take t) I rfl (own_upd (L := []) HP1.out ((Upd.refl _ _).alloc _) (by simp)) w1.heap.size rfl (Blk.new _ _ _) (by omega) (by simp; omega) ?_)
      intro v' w2 hown hgr hblk
      have HU2 := hd ((HU1.out.alloc (.cells #[.int .u8 1, .string (txt I)] 143)).trans' hgr (fun i hi => .inr (own_base_le HP1.out i (by simpa using hi))))
      have HO2 := hd hown
      clear hown hgr hblk
      have hwi : IntKind.i64.wrap ((I.length : Int) + 8) = I.length + 8 := by rw [IntKind.wrap_i64]; omega
      have hwa : IntKind.i64.wrap ((A : Int) + ((I.length : Int) + 8)) = ((A + (I.length + 8) : Nat) : Int) := by rw [IntKind.wrap_i64]; omega
      go_wp2_with fail
      go_roundw
      case rel => exact ⟨t + 1, by omega, by rw [HTS.out]; first | rfl | exact congrArg _ (by omega), HU2.out, by rw [HTM.out]; exact HO2.out⟩
      case measure => simp [intOf]; omega
    · obtain rfl : t = l.length := by omega
      have hop := HOP.out l.length wr
      have hd0 : encL g (l.drop l.length) = [] := by rw [List.drop_length]; rfl
      rw [hd0, List.nil_append] at hop hx
      rw [List.take_length] at hx htl ⊢
      rw [List.take_of_length_le (show (l.map (inB g)).length ≤ l.length by simp)] at HP
      have he' : ((openL J).2.2 != 0) = true := by simpa using hj
      have HOPX := hd hop
      clear hop hd0 hle HOP
      generalize openL J = O at *
      obtain ⟨k0, i0, e0⟩ := O
      simp only at he' HOPX
      go_wp2_with fail
      refine HOPX.out.mono ?_
      rintro x w1 ⟨rfl, hu1⟩
      go_wp2_with fail
      go_ret2
      exact ⟨_, rfl, HU.out.trans hu1, own_upd HP.out hu1 (by simp)⟩
end Go.Proofs.Ytjaoiaknglnomaa

/-
  Rows of cells that one owns: how they open, where they lie. No condition beyond those that each theorem states.
-/
set_option linter.unusedVariables false
set_option linter.unusedSimpArgs false
namespace Go.Proofs.Ytjaoiaknglnomaa
open Go.RowKit

theorem own_open {w : World} {B T sz : Nat} {v : Value} {n : Nat} {xs : List Value} (h : w.ownsRow B T sz v n xs) :
    ∃ a cap, v = .slice a n cap ∧ n ≤ cap ∧ cap ≤ maxLen ∧ (0 < n → ∃ g, a = some ⟨g, 0, none⟩ ∧ B ≤ g ∧ g < w.heap.size ∧ (∀ j, j < n * sz → w.cell? ⟨g, j, none⟩ = xs[j]?) ∧ (∀ j, w.frozen? ⟨g, j, none⟩ = false)) := by
  have hh := h
  obtain ⟨hl, h⟩ := h
  rcases h with ⟨rfl, rfl⟩ | ⟨g, cap, cur, rfl, hb, hg, hnc, hcm, hcs, ht⟩
  · exact ⟨none, 0, rfl, Nat.le_refl _, by unfold maxLen; omega, by omega⟩
  · refine ⟨_, cap, rfl, hnc, hcm, fun hn => ?_⟩
    obtain ⟨g', cap', e, h1, h2, h3, h4, h5⟩ := own_cases hh hn
    simp only [Value.slice.injEq, Option.some.injEq, Addr.mk.injEq, and_true, true_and] at e
    obtain ⟨rfl, rfl⟩ := e
    exact ⟨g, rfl, h1, h2, h4, h5⟩
theorem own_ge {w : World} {B T sz : Nat} {v : Value} {n : Nat} {xs : List Value} (h : w.ownsRow B T sz v n xs) : ∀ g, v.ownBlock = some g → B ≤ g ∧ g < w.heap.size := by
  intro g hg
  rcases h.2 with he | ⟨g', cap, cur, he, hb, hg', _⟩
  · rw [he.1] at hg; cases hg
  · rw [he] at hg
    simp only [Value.ownBlock, Option.some.injEq] at hg
    subst hg
    exact ⟨hb, Blk.lt hg'⟩
theorem own_open2 {w : World} {B T sz : Nat} {v : Value} {n : Nat} {xs : List Value} (h : w.ownsRow B T sz v n xs) :
    ∃ a cap, v = .slice a n cap ∧ n ≤ cap ∧ cap ≤ maxLen ∧ (a = none ∧ cap = 0 ∨ ∃ g, a = some ⟨g, 0, none⟩) := by
  rcases h.2 with ⟨rfl, rfl⟩ | ⟨g, cap, cur, rfl, hb, hg, hnc, hcm, hcs, ht⟩
  · exact ⟨none, 0, rfl, Nat.le_refl _, by unfold maxLen; omega, .inl ⟨rfl, rfl⟩⟩
  · exact ⟨_, cap, rfl, hnc, hcm, .inr ⟨g, rfl⟩⟩
theorem own_ne_any {w : World} {B T sz k T' : Nat} {c : Array Value} {v : Value} {n : Nat} {xs : List Value} (h : w.ownsRow B T sz v n xs) (hb : Blk w k c T') (hT : T ≠ T') : ∀ g, v.ownBlock = some g → g ≠ k := by
  intro g hg
  obtain ⟨a, cap, rfl, -⟩ := own_open h
  cases a with
  | none => cases hg
  | some ad =>
    rcases h.2 with ⟨he, _⟩ | ⟨g', cap', cur, he, hbb, hgg, _⟩
    · cases he
    · rw [he] at hg
      simp only [Value.ownBlock, Option.some.injEq] at hg
      subst hg
      rintro rfl
      rw [Blk, hgg] at hb
      simp only [Option.some.injEq, Obj.cells.injEq] at hb
      exact hT hb.2.1
theorem own_own {w : World} {B T sz B' T' sz' : Nat} {v v' : Value} {n n' : Nat} {xs xs' : List Value} (h : w.ownsRow B T sz v n xs) (h' : w.ownsRow B' T' sz' v' n' xs') (hT : T ≠ T') : ∀ g, v.ownBlock = some g → v'.ownBlock ≠ some g := by
  intro g hg hg'
  rcases h'.2 with ⟨rfl, _⟩ | ⟨g', cap, cur, rfl, hB, hb, _⟩
  · simp [Value.ownBlock] at hg'
  · have : g' = g := by simpa [Value.ownBlock] using hg'
    subst this
    exact own_ne_any h hb hT g' hg rfl
end Go.Proofs.Ytjaoiaknglnomaa

/-
  wal.scan over a log's frames, walked: the records, their bytes, whether so many bytes end with one. Conditions: records of sizes that there are; what stands behind them is no frame.
-/
set_option linter.unusedVariables false
set_option linter.unusedSimpArgs false
set_option maxRecDepth 100000
namespace Go.Proofs.Ytjaoiaknglnomaa
open Go.RowKit

theorem Try.infoStr : (Try.prog.info? 9).map (fun i => (i.zero, i.size, i.bytes)) = some (some (.string ⟨#[]⟩), 1, 16) := by kernel_rfl
def strVals (l : List (List UInt8)) : List Value := l.map fun t => .string (txt t)
/-- A list of texts in a row of its own. -/
abbrev StrRow (B : Nat) (w : World) (v : Value) (l : List (List UInt8)) : Prop := w.ownsRow B 9 1 v l.length (strVals l)
/-- One text appended. -/
theorem strAppend {ops : Array Oper} {rest : List Oper} {o : Oper} {a : Act} {w : World} {Q : Exit → Act → World → Prop} (hgd : o.guard = none) (s x : Operand)
    (ho : o.op = .call { callee := .builtin .append, args := #[s, x], argTypes := #[60, 60] })
    (B : Nat) (v : Value) (l : List (List UInt8)) (e : List UInt8) (hs : a.eval s = v) (hown : StrRow B w v l) (k : Nat) (hx : a.eval x = .slice (some ⟨k, 0, none⟩) 1 1) (hb : Blk w k #[.string (txt e)] 9)
    (hl : l.length ≤ 1000000) (hB : B ≤ w.heap.size)
    (h : ∀ v' w', StrRow B w' v' (l ++ [e]) → Upd v.ownBlock.toList w w' → (v'.ownBlock = v.ownBlock ∨ v'.ownBlock = some w.heap.size) → wpList Try.prog ops Q rest (a.put o.dst v') w') : wpList Try.prog ops Q (o :: rest) a w := by
  obtain ⟨i0, hinf, hz0, hz1, hz2⟩ := info_parts Try.infoStr
  refine wpList_append_own_at w hgd s x 60 ho B 9 i0 _ 1 16 Try.underlying60 hinf hz0 hz1 hz2 rfl (by decide) v l.length (strVals l) hs hown ⟨k, 0, none⟩ 1 1 [.string (txt e)] hx rfl (fun j u hj => by rw [Addr.add_lit, Nat.zero_add, Blk.cell hb j]; simpa using hj)
    (by intro u hu; simp only [List.mem_cons, List.not_mem_nil, or_false] at hu; rcases hu with rfl; rfl) (by unfold maxLen; omega) (by omega) hB ?_
  intro v' w' hown' hgr _ hat
  refine h v' w' ?_ (Upd.of_grown hgr) hat
  unfold StrRow
  rw [List.length_append]
  have e3 : strVals (l ++ [e]) = strVals l ++ [.string (txt e)] := by simp [strVals]
  rw [e3]
  exact hown'

/-- Do so many bytes end with one of the first records? -/
def metB (g : Nat) (l : List (List UInt8)) (n : Nat) : Nat → Bool
  | 0 => decide (n = 0)
  | t + 1 => metB g l n t || decide ((encL g (l.take (t + 1))).length = n)
theorem met_of (g : Nat) (l : List (List UInt8)) (n : Nat) : ∀ T k, k ≤ T → (encL g (l.take k)).length = n → metB g l n T = true
  | 0, k, hk, h => by
    obtain rfl : k = 0 := by omega
    simp [encL] at h
    simp [metB, ← h]
  | T + 1, k, hk, h => by
    rw [metB]
    by_cases hkT : k = T + 1
    · subst hkT
      simp [h]
    · rw [met_of g l n T k (by omega) h]
      rfl

set_option maxHeartbeats 8000000 in
theorem wscan_any (g n : Nat) (l : List (List UInt8)) (J : List UInt8) (w : World) (hg : g < 18446744073709551616) (hl : ∀ t ∈ l, t.length ≤ 262144) (hj : (openL J).2.2 ≠ 0) (hn : l.length ≤ 100000) (hJ : (encL g l ++ J).length ≤ 1099511627776) :
    Calls Try.prog 64 #[.string (txt (encL g l ++ J)), .int .u64 g, .int .i64 n] w fun x w' => ∃ v, x = .returned (.tuple #[v, .int .i64 ((encL g l).length : Nat), .bool (metB g l n l.length)]) ∧ Upd [] w w' ∧ StrRow w.heap.size w' v l := by
  have HSC := hd (scan_any g l J w hl hj hn hJ)
  have hel : (encL g l).length ≤ 1099511627776 := by rw [List.length_append] at hJ; omega
  have HLE := hd (fun t => enc_take_le g l t)
  have HLL := hd hl
  have HM0 := hd (show metB g l n 0 = decide (n = 0) from rfl)
  clear hl hj hJ
  generalize encL g l ++ J = S at *
  go_enter Try.func64, Try.ntmps64
  go_upto_region 2 with fail
  go_cut [10, 11] (fun s10 s11 wx => s10 = .int .i64 0 ∧ s11 = .bool (metB g l n 0) ∧ wx = w)
  case first =>
    by_cases h0 : n = 0
    · have h0' : ((n : Int) == 0) = true := by simp [h0]
      have HD := hd (show metB g l n 0 = true by rw [HM0.out]; simpa using h0)
      clear h0
      go_wp2_with fail
      go_meet
      case rel => rw [HD.out]; exact ⟨rfl, rfl, rfl⟩
    · have h0' : ((n : Int) == 0) = false := by simp; omega
      have HD := hd (show metB g l n 0 = false by rw [HM0.out]; simpa using h0)
      clear h0
      go_wp2_with fail
      go_meet
      case rel => rw [HD.out]; exact ⟨rfl, rfl, rfl⟩
  case rest =>
    obtain ⟨rfl, rfl, rfl⟩ := hcut
    go_wp2_with fail
    refine HSC.out.mono ?_
    rintro x w1 ⟨pv, rfl, hu1, hp1⟩
    obtain ⟨pa, pc, rfl, hpc, hpm, -⟩ := own_open hp1
    rw [List.length_map] at hpc ⊢
    have HU1 := hd hu1
    have HP1 := hd hp1
    clear hu1 hp1
    go_wp2_with fail
    go_loopw [9, 10, 11, 28] (fun v a m i wr => ∃ t : Nat, t ≤ l.length ∧ i = .int .i64 t ∧ a = .int .i64 ((encL g (l.take t)).length : Nat) ∧ m = .bool (metB g l n t) ∧ Upd [] w1 wr ∧ Upd [] wc wr ∧ StrRow w1.heap.size wr v (l.take t)) (fun _ _ _ i _ => l.length - (intOf i).toNat)
    case atStart => exact ⟨0, Nat.zero_le _, rfl, rfl, rfl, Upd.refl _ _, HU1.out, World.ownsRow_nil _ _ _ _⟩
    case round =>
      obtain ⟨t, ht, rfl, rfl, rfl, huv, hu, hs⟩ := hrel
      have HUv := hd huv
      have HU := hd hu
      have HS := hd hs
      by_cases htn : t < l.length
      · have htn' : (t : Int) < (l.length : Int) := by omega
        obtain ⟨gp, cap', hge, hgB, hgl, -, hgc, hgz⟩ := own_cases (own_upd HP1.out huv (by simp)) (by rw [List.length_map]; omega)
        simp only [Value.slice.injEq] at hge
        obtain ⟨rfl, -, rfl⟩ := hge
        obtain ⟨q0, q1⟩ := partCells_get (l.map (inB g)) t (by simpa using htn)
        have c0 := (hgc (t * 2) (by rw [List.length_map]; omega)).trans q0
        have c1 := (hgc (t * 2 + 1) (by rw [List.length_map]; omega)).trans q1
        rw [List.getElem_map] at c1
        have hxl := HLL.out l[t] (List.getElem_mem _)
        have hil := in_len g l[t] hxl
        have hle := HLE.out t
        have hle2 := HLE.out (t + 1)
        have HTS := hd (show (encL g (l.take (t + 1))).length = (encL g (l.take t)).length + ((inB g l[t]).length + 8) by rw [enc_take_succ g l t htn, List.length_append, spell_len])
        have HTM := hd (show l.take (t + 1) = l.take t ++ [l[t]] from List.take_succ_eq_append_getElem htn)
        have HMS := hd (show metB g l n (t + 1) = (metB g l n t || decide ((encL g (l.take (t + 1))).length = n)) from rfl)
        have hU : RdS.U ⟨inB g l[t], 0⟩ = (g, ⟨nBytes (l[t].length : Int) ++ l[t], 0⟩) := U_uBytes g hg _
        have hSS : RdS.S ⟨nBytes (l[t].length : Int) ++ l[t], 0⟩ 262144 = (l[t], ⟨[], 0⟩) := by
          have := S_sBytes l[t] [] 262144 (by omega) (by omega)
          rwa [List.append_nil] at this
        have HRU := hd (fun k W (h : RdAt W k ⟨inB g l[t], 0⟩) => U_rd ⟨inB g l[t], 0⟩ k W h (by simp only; omega))
        rw [hU] at HRU
        have hnl := nBytes_le (l[t].length : Int)
        have HRS := hd (fun k W (h : RdAt W k ⟨nBytes (l[t].length : Int) ++ l[t], 0⟩) => S_rd ⟨nBytes (l[t].length : Int) ++ l[t], 0⟩ 262144 k W h (by simp only [List.length_append]; omega) (by decide) (by decide))
        rw [hSS] at HRS
        have HRD := hd (fun k W (h : RdAt W k ⟨[], 0⟩) => done_rd ⟨[], 0⟩ k W h)
        have hdn : (RdS.done ⟨[], 0⟩) = ⟨[], 0⟩ := rfl
        rw [hdn] at HRD
        simp only at HRU HRS HRD
        have hml : (l.take t).length = t := by rw [List.length_take]; omega
        clear hU hSS hdn hgc hgz q0 q1 hu huv hs hxl hnl
        generalize nBytes (l[t].length : Int) ++ l[t] = r2 at *
        generalize inB g l[t] = I at *
        generalize l[t]'_ = X at *
        rw [HTS.out] at hle2 HMS
        generalize hA : (encL g (l.take t)).length = A at *
        have hA := hd hA
        generalize l.take t = L at *
        have e4 : ∃ W, wr.alloc (.cells #[.int .u8 1, .string (txt I)] 143) = W ∧ Upd [] wr W ∧ Blk W wr.heap.size #[.int .u8 1, .string (txt I)] 143 := ⟨_, rfl, (Upd.refl _ _).alloc _, Blk.new _ _ _⟩
        go_upto_region 7 with fail
        obtain ⟨W4, hW4, hu4, hb4⟩ := e4
        rw [hW4]
        clear hW4 c0 c1
        obtain ⟨kp, hkp⟩ : ∃ kp, kp = wr.heap.size := ⟨_, rfl⟩
        rw [← hkp] at hb4 ⊢
        have HU4 := hd (HU.out.trans hu4)
        have HV4 := hd (HUv.out.trans hu4)
        have HS4 := hd (own_upd HS.out hu4 (by simp))
        have HB4 := hd hb4
        have hkl := hb4.lt
        have HOLp := hd (show ∀ i, Value.ownBlock u9 = some i → i < kp from fun i hi => by have := (own_ge HS.out i hi).2; omega)
        clear hu4 hb4 hkp
        have hpc4 := HB4.out.cell
        go_wp2_with fail
        refine (read_new I W4).mono ?_
        rintro x w5 ⟨rfl, hu5, hr5, hlt5⟩
        obtain ⟨kr, hkr⟩ : ∃ kr, kr = W4.heap.size := ⟨_, rfl⟩
        rw [← hkr] at hr5 hlt5 ⊢
        have hkr2 : W4.heap.size ≤ kr := by omega
        have HU5 := hd (HU4.out.trans hu5)
        have HV5 := hd (HV4.out.trans hu5)
        have HS5 := hd (own_upd HS4.out hu5 (by simp))
        have HB5 := hd (HB4.out.upd hu5 (by simp))
        have HR5 := hd hr5
        have hsz5 := HU4.out.size
        have hsv5 := HV4.out.size
        have HOL := hd (show ∀ i, Value.ownBlock u9 = some i → i < kr from fun i hi => by have := HOLp.out i hi; omega)
        clear hpc4 hu5 hr5 hkr
        go_wp2_with fail
        refine (HRU.out kr w5 HR5.out).mono ?_
        rintro x w6 ⟨rfl, hu6, hr6⟩
        have HR6 := hd hr6
        have HU6 := hd hu6
        clear hu6 hr6
        go_wp2_with fail
        refine (HRS.out kr w6 HR6.out).mono ?_
        rintro x w7 ⟨rfl, hu7, hr7⟩
        have HR7 := hd hr7
        have HU7 := hd (HU6.out.trans hu7)
        clear hu7 hr7
        go_wp2_with fail
        refine (HRD.out kr w7 HR7.out).mono ?_
        rintro x w8 ⟨rfl, hu8, hr8⟩
        have HU8 := hd (HU7.out.trans hu8)
        have HB8 := hd (HB5.out.upd HU8.out (by simp; omega))
        have HS8 := hd (own_upd HS5.out HU8.out (fun i hi hm => by have := HOL.out i hi; simp at hm; omega))
        have HW8 := hd (HU5.out.trans' HU8.out (by intro i hi; simp at hi; omega))
        have HV8 := hd (HV5.out.trans' HU8.out (by intro i hi; simp at hi; omega))
        have hs8 := HW8.out.size
        have hsv8 := HV8.out.size
        clear hu8 hr8
        have hpc8 := HB8.out.cell
        go_wp2_with (at_builtin; refine strAppend rfl (.tmp 52) (.tmp 54) rfl w1.heap.size _ L X rfl (own_upd (L := []) HS8.out ((Upd.refl _ _).alloc _) (by simp)) w8.heap.size rfl (Blk.new _ _ _) (by omega) (by simp; omega) ?_)
        intro v' w9 hown hgr hblk
        have hs1w := HU1.out.size
        have HV9 := hd ((HV8.out.alloc (.cells #[.string (txt X)] 9)).trans' hgr (fun i hi => .inr (own_base_le HS8.out i (by simpa using hi))))
        have HW9 := hd ((HW8.out.alloc (.cells #[.string (txt X)] 9)).trans' hgr (fun i hi => .inr (Nat.le_trans hs1w (own_base_le HS8.out i (by simpa using hi)))))
        have HS9 := hd hown
        have HB9 := hd (Blk.upd (HB8.out.alloc (.cells #[.string (txt X)] 9)) hgr (fun hm => by have := HOLp.out kp (by simpa using hm); omega))
        clear hown hgr hblk hpc8
        have hpc9 := HB9.out.cell
        have hwi : IntKind.i64.wrap ((I.length : Int) + 8) = I.length + 8 := by rw [IntKind.wrap_i64]; omega
        have hwa : IntKind.i64.wrap ((A : Int) + ((I.length : Int) + 8)) = (A : Int) + ((I.length : Int) + 8) := by rw [IntKind.wrap_i64]; omega
        have HAT := hd (show (((A + (I.length + 8) : Nat)) : Int) = (A : Int) + ((I.length : Int) + 8) by omega)
        rcases hm : metB g l n t with _ | _
        · by_cases hq : A + (I.length + 8) = n
          · have hq1 : (((A : Int) + ((I.length : Int) + 8)) == (n : Int)) = true := by simp; omega
            have HD := hd (show metB g l n (t + 1) = true by rw [HMS.out, hm]; simpa using hq)
            clear hq
            go_wp2_with fail
            go_roundw
            case rel => exact ⟨t + 1, by omega, by go_num, by rw [HTS.out, HAT.out], by rw [HD.out], HV9.out, HW9.out, by rw [HTM.out]; exact HS9.out⟩
            case measure => simp [intOf]; omega
          · have hq1 : (((A : Int) + ((I.length : Int) + 8)) == (n : Int)) = false := by simp; omega
            have HD := hd (show metB g l n (t + 1) = false by rw [HMS.out, hm]; simpa using hq)
            clear hq
            go_wp2_with fail
            go_roundw
            case rel => exact ⟨t + 1, by omega, by go_num, by rw [HTS.out, HAT.out], by rw [HD.out], HV9.out, HW9.out, by rw [HTM.out]; exact HS9.out⟩
            case measure => simp [intOf]; omega
        · have HD := hd (show metB g l n (t + 1) = true by rw [HMS.out, hm]; rfl)
          go_wp2_with fail
          go_roundw
          case rel => exact ⟨t + 1, by omega, by go_num, by rw [HTS.out, HAT.out], by rw [HD.out], HV9.out, HW9.out, by rw [HTM.out]; exact HS9.out⟩
          case measure => simp [intOf]; omega
      · obtain rfl : t = l.length := by omega
        rw [List.take_length] at HS ⊢
        clear hu huv hs
        go_wp2_with fail
        go_ret3
        exact ⟨_, rfl, HU.out, own_mono HS.out HU1.out.size⟩
end Go.Proofs.Ytjaoiaknglnomaa
