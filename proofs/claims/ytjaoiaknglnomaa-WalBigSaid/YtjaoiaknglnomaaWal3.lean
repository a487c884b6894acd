/-
  seal.Scan over a log's frames, walked. Conditions: records of sizes that there are; what stands behind them is no frame.
-/
import Derived.Test.YtjaoiaknglnomaaWal2
import Derived.Deep.AppendLies
import Derived.Maps.AppendAt
set_option linter.unusedVariables false
set_option linter.unusedSimpArgs false
set_option maxRecDepth 100000
namespace Go.Proofs.Ytjaoiaknglnomaa
open Go.RowKit

/-- A generation's records as bytes. -/
def encL (g : Nat) (l : List (List UInt8)) : List UInt8 := l.flatMap (spellL g)
/-- What is in a record's frame. -/
def inB (g : Nat) (t : List UInt8) : List UInt8 := uBytes g ++ (nBytes t.length ++ t)
theorem spell_in (g : Nat) (t : List UInt8) : spellL g t = frameL 1 (inB g t) := rfl
theorem in_len (g : Nat) (t : List UInt8) (ht : t.length ≤ 262144) : (inB g t).length ≤ 262180 := by
  have h1 := uBytes_le g
  have h2 := nBytes_le (t.length : Int)
  simp only [inB, List.length_append]
  omega
theorem spell_len (g : Nat) (t : List UInt8) : (spellL g t).length = (inB g t).length + 8 := frame_len 1 _
theorem openL_app (s r : List UInt8) (hs : s.length ≤ 1048576) : openL (frameL 1 s ++ r) = (1, s, 0) := by
  have hw := wideOf_length s.length 3
  have hw4 := wideOf_length (sumN (bodyL 1 s)) 4
  have hn : numOf ((wideOf s.length 3)) = s.length := by rw [numOf_wide]; exact Nat.mod_eq_of_lt (by omega)
  have hl : (frameL 1 s ++ r).length = s.length + 8 + r.length := by rw [List.length_append, frame_len]
  have e1 : ((frameL 1 s ++ r).drop 1).take 3 = wideOf s.length 3 := by
    simp only [frameL, bodyL, List.cons_append, List.drop_succ_cons, List.drop_zero, List.append_assoc]
    exact take_is _ _ 3 hw
  have e2 : (frameL 1 s ++ r).headD 0 = 1 := rfl
  have hlb : (bodyL 1 s).length = 4 + s.length := by rw [body_len]; omega
  have e3 : (frameL 1 s ++ r).take (4 + s.length) = bodyL 1 s := by
    unfold frameL
    rw [List.append_assoc]
    exact take_is _ _ _ hlb
  have e4 : ((frameL 1 s ++ r).drop (4 + s.length)).take 4 = wideOf (sumN (bodyL 1 s)) 4 := by
    have : (frameL 1 s ++ r).drop (4 + s.length) = wideOf (sumN (bodyL 1 s)) 4 ++ r := by
      unfold frameL
      rw [List.append_assoc]
      exact drop_is _ _ _ hlb
    rw [this]
    exact take_is _ _ 4 hw4
  have e5 : ((frameL 1 s ++ r).drop 4).take s.length = s := by
    have : (frameL 1 s ++ r).drop 4 = s ++ (wideOf (sumN (bodyL 1 s)) 4 ++ r) := by
      have q : frameL 1 s ++ r = (1 :: wideOf s.length 3) ++ (s ++ (wideOf (sumN (bodyL 1 s)) 4 ++ r)) := by simp [frameL, bodyL]
      rw [q]
      exact drop_is _ _ _ (by simp [wideOf_length])
    rw [this]
    exact take_is _ _ _ rfl
  have e6 : numOf (wideOf (sumN (bodyL 1 s)) 4) = sumN (bodyL 1 s) := by
    rw [numOf_wide]
    exact Nat.mod_eq_of_lt (sumN_lt _)
  unfold openL
  rw [if_neg (by omega), e2, if_neg (by decide), e1]
  simp only [hn]
  rw [if_neg (by omega), if_neg (by omega), e3, e4, e6, e5, if_pos rfl]
theorem enc_take_succ (g : Nat) (l : List (List UInt8)) (t : Nat) (ht : t < l.length) : encL g (l.take (t + 1)) = encL g (l.take t) ++ spellL g l[t] := by
  unfold encL
  rw [List.take_succ_eq_append_getElem ht, List.flatMap_append, List.flatMap_cons, List.flatMap_nil, List.append_nil]
theorem enc_drop (g : Nat) (l : List (List UInt8)) (t : Nat) (ht : t < l.length) : encL g (l.drop t) = spellL g l[t] ++ encL g (l.drop (t + 1)) := by
  unfold encL
  rw [List.drop_eq_getElem_cons ht, List.flatMap_cons]
theorem enc_split (g : Nat) (l : List (List UInt8)) (t : Nat) : encL g l = encL g (l.take t) ++ encL g (l.drop t) := by
  unfold encL
  rw [← List.flatMap_append, List.take_append_drop]
theorem enc_at (g : Nat) (l : List (List UInt8)) (t : Nat) (J : List UInt8) : (encL g l ++ J).drop (encL g (l.take t)).length = encL g (l.drop t) ++ J := by
  rw [enc_split g l t, List.append_assoc]
  exact drop_is _ _ _ rfl
theorem enc_take_le (g : Nat) (l : List (List UInt8)) (t : Nat) : (encL g (l.take t)).length ≤ (encL g l).length := by
  rw [enc_split g l t, List.length_append]; omega

def partCells (l : List (List UInt8)) : List Value := l.flatMap fun i => [.int .u8 1, .string (txt i)]
theorem partCells_length (l : List (List UInt8)) : (partCells l).length = l.length * 2 := by
  induction l with
  | nil => rfl
  | cons x r ih => simp only [partCells, List.flatMap_cons, List.length_append, List.length_cons] at *; simp at *; omega
theorem partCells_get : ∀ (l : List (List UInt8)) (t : Nat) (ht : t < l.length), (partCells l)[t * 2]? = some (.int .u8 1) ∧ (partCells l)[t * 2 + 1]? = some (.string (txt l[t]))
  | x :: r, 0, _ => ⟨rfl, rfl⟩
  | x :: r, t + 1, h => by
    have ih := partCells_get r t (by simpa using h)
    have e : partCells (x :: r) = .int .u8 1 :: .string (txt x) :: partCells r := rfl
    rw [e, show (t + 1) * 2 = t * 2 + 1 + 1 by omega, List.getElem?_cons_succ, List.getElem?_cons_succ, List.getElem?_cons_succ, List.getElem?_cons_succ, List.getElem_cons_succ]
    exact ih
theorem Try.infoPart : (Try.prog.info? 143).map (fun i => (i.zero, i.size, i.bytes)) = some (some (.agg #[.int .u8 0, .string ⟨#[]⟩]), 2, 24) := by kernel_rfl
abbrev PartRow (B : Nat) (w : World) (v : Value) (l : List (List UInt8)) : Prop := w.ownsRow B 143 2 v l.length (partCells l)

/-- One frame's content appended. -/
theorem partAppend {ops : Array Oper} {rest : List Oper} {o : Oper} {a : Act} {w : World} {Q : Exit → Act → World → Prop} (hgd : o.guard = none) (s x : Operand)
    (ho : o.op = .call { callee := .builtin .append, args := #[s, x], argTypes := #[140, 140] })
    (B : Nat) (v : Value) (l : List (List UInt8)) (e : List UInt8) (hs : a.eval s = v) (hown : PartRow B w v l) (k : Nat) (hx : a.eval x = .slice (some ⟨k, 0, none⟩) 1 1) (hb : Blk w k #[.int .u8 1, .string (txt e)] 143)
    (hl : l.length ≤ 1000000) (hB : B ≤ w.heap.size)
    (h : ∀ v' w', PartRow B w' v' (l ++ [e]) → Upd v.ownBlock.toList w w' → (v'.ownBlock = v.ownBlock ∨ v'.ownBlock = some w.heap.size) → wpList Try.prog ops Q rest (a.put o.dst v') w') : wpList Try.prog ops Q (o :: rest) a w := by
  obtain ⟨i0, hinf, hz0, hz1, hz2⟩ := info_parts Try.infoPart
  refine wpList_append_own_at w hgd s x 140 ho B 143 i0 _ 2 24 Try.underlying140 hinf hz0 hz1 hz2 rfl (by decide) v l.length (partCells l) hs hown ⟨k, 0, none⟩ 1 1 [.int .u8 1, .string (txt e)] hx rfl (fun j u hj => by rw [Addr.add_lit, Nat.zero_add, Blk.cell hb j]; simpa using hj)
    (by intro u hu; simp only [List.mem_cons, List.not_mem_nil, or_false] at hu; rcases hu with rfl | rfl <;> rfl) (by unfold maxLen; omega) (by omega) hB ?_
  intro v' w' hown' hgr _ hat
  refine h v' w' ?_ (Upd.of_grown hgr) hat
  unfold PartRow
  rw [List.length_append]
  have e3 : partCells (l ++ [e]) = partCells l ++ [.int .u8 1, .string (txt e)] := by simp [partCells]
  rw [e3]
  exact hown'

set_option maxHeartbeats 4000000 in
theorem scan_any (g : Nat) (l : List (List UInt8)) (J : List UInt8) (w : World) (hl : ∀ t ∈ l, t.length ≤ 262144) (hj : (openL J).2.2 ≠ 0) (hn : l.length ≤ 100000) (hJ : (encL g l ++ J).length ≤ 1099511627776) :
    Calls Try.prog 83 #[.string (txt (encL g l ++ J))] w fun x w' => ∃ v, x = .returned (.tuple #[v, .int .i64 ((encL g l).length : Nat)]) ∧ Upd [] w w' ∧ PartRow w.heap.size w' v (l.map (inB g)) := by
  have HOP := hd (fun (t : Nat) (W : World) => open_any (encL g (l.drop t) ++ J) W (by
    have := enc_at g l t J
    have h2 := congrArg List.length this
    rw [List.length_drop] at h2
    omega))
  have HAT := hd (fun t => enc_at g l t J)
  have HLE := hd (fun t => (show (encL g (l.take t)).length ≤ (encL g l ++ J).length by have := enc_take_le g l t; rw [List.length_append]; omega))
  generalize encL g l ++ J = S at *
  go_enter Try.func83, Try.ntmps83
  go_wp2_with fail
  go_loopw [4, 5] (fun v a wr => ∃ t : Nat, t ≤ l.length ∧ a = .int .i64 ((encL g (l.take t)).length : Nat) ∧ Upd [] w wr ∧ PartRow w.heap.size wr v ((l.map (inB g)).take t)) (fun _ a _ => (encL g l).length + 1 - (intOf a).toNat)
  case atStart => exact ⟨0, Nat.zero_le _, rfl, Upd.refl _ _, World.ownsRow_nil _ _ _ _⟩
  case round =>
    obtain ⟨t, ht, rfl, hu, hp⟩ := hrel
    have HU := hd hu
    have HP := hd hp
    have hle := enc_take_le g l t
    have htl := HLE.out t
    have hx := txt_tail S (encL g (l.take t)).length
    rw [HAT.out t] at hx
    clear hu hp
    by_cases htn : t < l.length
    · have HED := hd (enc_drop g l t htn)
      have HTS := hd (show (encL g (l.take (t + 1))).length = (encL g (l.take t)).length + ((inB g l[t]).length + 8) by rw [enc_take_succ g l t htn, List.length_append, spell_len])
      have hle2 := enc_take_le g l (t + 1)
      have htl2 := HLE.out (t + 1)
      have HTM := hd (show (l.map (inB g)).take (t + 1) = (l.map (inB g)).take t ++ [inB g l[t]] by rw [List.take_succ_eq_append_getElem (by simpa using htn), List.getElem_map])
      have hil := in_len g l[t] (hl _ (List.getElem_mem _))
      have HOL := hd (show openL (encL g (l.drop t) ++ J) = (1, inB g l[t], 0) by rw [HED.out, List.append_assoc, spell_in]; exact openL_app _ _ (by omega))
      have hml : ((l.map (inB g)).take t).length = t := by rw [List.length_take, List.length_map]; omega
      have hopt := hd (HOP.out t wr)
      rw [HOL.out] at hopt
      clear HED
      generalize inB g l[t] = I at *
      rw [HTS.out] at hle2 htl2
      generalize hA : (encL g (l.take t)).length = A at *
      have hA := hd hA
      go_wp2_with fail
      refine hopt.out.mono ?_
      rintro x w1 ⟨rfl, hu1⟩
      have HU1 := hd (HU.out.trans hu1)
      have HP1 := hd (own_upd HP.out hu1 (by simp))
      have hs1 := HU1.out.size
      clear hu1
      go_wp2_with (at_builtin; refine partAppend rfl (.tmp 21) (.tmp 25) rfl w.heap.size _ ((l.map (inB g)).take t) I rfl (own_upd (L := []) HP1.out ((Upd.refl _ _).alloc _) (by simp)) w1.heap.size rfl (Blk.new _ _ _) (by omega) (by simp; omega) ?_)
      intro v' w2 hown hgr hblk
      have HU2 := hd ((HU1.out.alloc (.cells #[.int .u8 1, .string (txt I)] 143)).trans' hgr (fun i hi => .inr (own_base_le HP1.out i (by simpa using hi))))
      have HO2 := hd hown
      clear hown hgr hblk
      have hwi : IntKind.i64.wrap ((I.length : Int) + 8) = I.length + 8 := by rw [IntKind.wrap_i64]; omega
      have hwa : IntKind.i64.wrap ((A : Int) + ((I.length : Int) + 8)) = ((A + (I.length + 8) : Nat) : Int) := by rw [IntKind.wrap_i64]; omega
      go_wp2_with fail
      go_roundw
      case rel => exact ⟨t + 1, by omega, by rw [HTS.out]; first | rfl | exact congrArg _ (by omega), HU2.out, by rw [HTM.out]; exact HO2.out⟩
      case measure => simp [intOf]; omega
    · obtain rfl : t = l.length := by omega
      have hop := HOP.out l.length wr
      have hd0 : encL g (l.drop l.length) = [] := by rw [List.drop_length]; rfl
      rw [hd0, List.nil_append] at hop hx
      rw [List.take_length] at hx htl ⊢
      rw [List.take_of_length_le (show (l.map (inB g)).length ≤ l.length by simp)] at HP
      have he' : ((openL J).2.2 != 0) = true := by simpa using hj
      have HOPX := hd hop
      clear hop hd0 hle HOP
      generalize openL J = O at *
      obtain ⟨k0, i0, e0⟩ := O
      simp only at he' HOPX
      go_wp2_with fail
      refine HOPX.out.mono ?_
      rintro x w1 ⟨rfl, hu1⟩
      go_wp2_with fail
      go_ret2
      exact ⟨_, rfl, HU.out.trans hu1, own_upd HP.out hu1 (by simp)⟩
end Go.Proofs.Ytjaoiaknglnomaa
