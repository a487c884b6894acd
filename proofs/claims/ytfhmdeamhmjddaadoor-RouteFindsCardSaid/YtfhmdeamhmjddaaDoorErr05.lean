/-
  Package fault: errors that bear a number, walked: Of, New, Wrap, Code, Trail. Condition: errors.errorType and bytealg.MaxLen hold what they are laid to hold.
-/
import Derived.Test.YtfhmdeamhmjddaaDoorFault05
set_option linter.unusedVariables false
set_option linter.unusedSimpArgs false
set_option maxRecDepth 100000
namespace Go.Proofs.YtfhmdeamhmjddaaDoor
open Go.RowKit Go.Extern.Stop Go.Stop Go.Extern

/-- What the library's variables hold. -/
def Door (w : World) : Prop := w.cell? ⟨0, 0, none⟩ = some (.iface 104 (.agg #[.pointer (some ⟨4, 26, none⟩)])) ∧ ∃ m : Int, w.cell? ⟨1, 0, none⟩ = some (.int .i64 m)
theorem cell_lt' {w : World} {a : Addr} {v : Value} (h : w.cell? a = some v) : a.block < w.heap.size := World.block_lt_of_cell? w _ h
theorem Door.upd {L : List Nat} {w w' : World} (h : Door w) (hu : Upd L w w') (h0 : 0 ∉ L) (h1 : 1 ∉ L) : Door w' := by
  obtain ⟨ha, m, hb⟩ := h
  exact ⟨(World.cell?_of_block (hu.block _ (cell_lt' ha) h0)).trans ha, m, (World.cell?_of_block (hu.block _ (cell_lt' hb) h1)).trans hb⟩
theorem Door.later {w w' : World} (h : Door w) (hu : Upd [] w w') : Door w' := h.upd hu (by simp) (by simp)

/-- An error: its codes and places, from without. -/
def ErrAt (w : World) : Value → List (Int × List UInt8) → Prop
  | v, [] => v = .nilIface
  | v, (c, s) :: r => ∃ k u, v = .iface 67 (.pointer (some ⟨k, 0, none⟩)) ∧ Blk w k #[.int .i64 c, .string (txt s), u] 71 ∧ ErrAt w u r
theorem ErrAt.upd {w w' : World} (hu : Upd [] w w') : ∀ {l : List (Int × List UInt8)} {v : Value}, ErrAt w v l → ErrAt w' v l
  | [], _, h => h
  | (_, _) :: _, _, ⟨k, u, h1, h2, h3⟩ => ⟨k, u, h1, h2.upd hu (by simp), ErrAt.upd hu h3⟩
theorem ErrAt.keep {Ls : List Nat} {w w' : World} (hu : Upd Ls w w') (hn : ∀ k c, Blk w k c 71 → k ∉ Ls) : ∀ {l : List (Int × List UInt8)} {v : Value}, ErrAt w v l → ErrAt w' v l
  | [], _, h => h
  | (_, _) :: _, _, ⟨k, u, h1, h2, h3⟩ => ⟨k, u, h1, h2.upd hu (hn _ _ h2), ErrAt.keep hu hn h3⟩
def codeOf : List (Int × List UInt8) → Int
  | [] => 0
  | (c, _) :: _ => c
/-- The places that are told. -/
def trailOf : List (Int × List UInt8) → List (List UInt8)
  | [] => []
  | (_, s) :: r => if s = [] then trailOf r else s :: trailOf r

theorem assertUnwrap (v : Value) (w : World) : (Instr.typeAssert (.iface 67 v) 26 95 true).run Tryd.prog w = .ok (.tuple #[.iface 67 v, .bool true]) w := run_typeAssert_hasB Tryd.underlying95 (by kernel_rfl) v 26 w
theorem assertFault (v : Value) (w : World) : (Instr.typeAssert (.iface 67 v) 26 67 true).run Tryd.prog w = .ok (.tuple #[v, .bool true]) w := by kernel_rfl
theorem methodUnwrap (h : Value) (w : World) : (Go.method 253 67 h "Unwrap").run Tryd.prog w = .ok (102, h) w := by kernel_rfl

theorem fnew_any (c : Int) (s : List UInt8) (w : World) (hc : c ≠ 0) :
    Calls Tryd.prog 69 #[.int .i64 c, .string (txt s)] w fun e w' => ∃ v, e = .returned v ∧ Upd [] w w' ∧ ErrAt w' v [(c, s)] := by
  have hc' : (c == 0) = false := by simpa using hc
  go_enter Tryd.func69, Tryd.ntmps69
  go_wp2_with fail
  go_ret
  exact ⟨_, rfl, (Upd.refl _ _).alloc _, _, _, rfl, Blk.new _ _ _, rfl⟩
theorem fof_any (c : Int) (w : World) (hc : c ≠ 0) :
    Calls Tryd.prog 55 #[.int .i64 c] w fun e w' => ∃ v, e = .returned v ∧ Upd [] w w' ∧ ErrAt w' v [(c, [])] := by
  go_enter Tryd.func55, Tryd.ntmps55
  go_wp2_with fail
  refine (fnew_any c [] w hc).mono ?_
  rintro e w1 ⟨v, rfl, hu, hv⟩
  go_wp2_with fail
  go_ret
  exact ⟨_, rfl, hu, hv⟩
theorem funwrap_any (k : Nat) (c : Value) (s : Value) (u : Value) (w : World) (h : Blk w k #[c, s, u] 71) :
    Calls Tryd.prog 102 #[.pointer (some ⟨k, 0, none⟩)] w fun e w' => e = .returned u ∧ w = w' := by
  have hc := h.cell
  go_enter Tryd.func102, Tryd.ntmps102
  go_wp2_with fail
  go_ret
  exact ⟨rfl, rfl⟩
theorem unwrap_any (k : Nat) (c : Value) (s : Value) (u : Value) (w : World) (h : Blk w k #[c, s, u] 71) :
    Calls Tryd.prog 41 #[.iface 67 (.pointer (some ⟨k, 0, none⟩))] w fun e w' => e = .returned u ∧ w = w' := by
  have h1 := assertUnwrap
  have h2 := methodUnwrap
  go_enter Tryd.func41, Tryd.ntmps41
  go_wp2_with fail
  refine (funwrap_any k c s u w h).mono ?_
  rintro e w1 ⟨rfl, rfl⟩
  go_wp2_with fail
  go_ret
  exact ⟨rfl, rfl⟩
set_option maxHeartbeats 4000000 in
theorem fcode_any (v : Value) (l : List (Int × List UInt8)) (w : World) (hD : Door w) (h : ErrAt w v l) :
    Calls Tryd.prog 13 #[v] w fun e w' => e = .returned (.int .i64 (codeOf l)) ∧ Upd [] w w' := by
  match l, h with
  | [], h =>
    obtain rfl : v = .nilIface := h
    go_enter Tryd.func13, Tryd.ntmps13
    go_wp2_with fail
    go_ret
    exact ⟨rfl, Upd.refl _ _⟩
  | (c, s) :: r, ⟨k, u, hv, hb, hr⟩ =>
    subst hv
    have hk := hb.lt
    have hA := hd (as_hit ⟨k, 0, none⟩ ⟨w.heap.size, 0, none⟩ (.pointer none) (w.alloc (.cells #[.pointer none] 67)) (by rw [World.cell?_alloc_lt _ _ ⟨0, 0, none⟩ (cell_lt' hD.1)]; exact hD.1) (by simp) (by simp))
    have HB := hd hb
    clear hb hr hD
    go_enter Tryd.func13, Tryd.ntmps13
    go_wp2_with fail
    refine hA.out.mono ?_
    rintro e w1 ⟨rfl, hw⟩
    have hu1 : Upd [] w w1 := by
      rw [hw]
      exact ((((((Upd.refl [] w).alloc _).alloc _).alloc _).alloc _).alloc _).setCell (by simp) _
    have hc1 : w1.cell? ⟨w.heap.size, 0, none⟩ = some (.pointer (some ⟨k, 0, none⟩)) := by
      rw [hw]
      refine World.cell?_setCell_same (u := .pointer none) _ _ _ ?_
      rw [World.cell?_alloc_lt _ _ ⟨w.heap.size, 0, none⟩ (by simp; omega), World.cell?_alloc_lt _ _ ⟨w.heap.size, 0, none⟩ (by simp; omega), World.cell?_alloc_lt _ _ ⟨w.heap.size, 0, none⟩ (by simp; omega), World.cell?_alloc_lt _ _ ⟨w.heap.size, 0, none⟩ (by simp)]
      simp
    have HU1 := hd hu1
    have hb1 := (HB.out.upd hu1 (by simp)).cell
    clear hw hu1 hA
    go_wp2_with fail
    go_ret
    exact ⟨rfl, HU1.out⟩
theorem fwrap_any (v : Value) (c : Int) (s : List UInt8) (r : List (Int × List UInt8)) (t : List UInt8) (w : World) (hD : Door w) (h : ErrAt w v ((c, s) :: r)) :
    Calls Tryd.prog 44 #[v, .string (txt t)] w fun e w' => ∃ v', e = .returned v' ∧ Upd [] w w' ∧ ErrAt w' v' ((c, t) :: (c, s) :: r) := by
  have HC := hd (fcode_any v _ w hD h)
  have HE := hd h
  obtain ⟨k, u, rfl, -, -⟩ := h
  go_enter Tryd.func44, Tryd.ntmps44
  go_wp2_with fail
  refine HC.out.mono ?_
  rintro e w1 ⟨rfl, hu⟩
  go_wp2_with fail
  go_ret
  exact ⟨_, rfl, hu.alloc _, _, _, rfl, Blk.new _ _ _, HE.out.upd (hu.alloc _)⟩
theorem ErrAt.shape {w : World} {v : Value} : ∀ {l : List (Int × List UInt8)}, ErrAt w v l → v = .nilIface ∨ ∃ k, v = .iface 67 (.pointer (some ⟨k, 0, none⟩))
  | [], h => .inl h
  | _ :: _, ⟨k, _, h, _⟩ => .inr ⟨k, h⟩

theorem ErrAt.same {w : World} : ∀ {l m : List (Int × List UInt8)} {v : Value}, ErrAt w v l → ErrAt w v m → l.length = m.length
  | [], [], _, _, _ => rfl
  | [], (c, s) :: r, v, h, ⟨k, u, h1, _, _⟩ => by
    obtain rfl : v = .nilIface := h
    cases h1
  | (c, s) :: r, [], v, ⟨k, u, h1, _, _⟩, h => by
    obtain rfl : v = .nilIface := h
    cases h1
  | (c, s) :: r, (c', s') :: r', v, ⟨k, u, h1, h2, h3⟩, ⟨k', u', h1', h2', h3'⟩ => by
    rw [h1] at h1'
    simp only [Value.iface.injEq, Value.pointer.injEq, Option.some.injEq, Addr.mk.injEq, and_true, true_and] at h1'
    subst h1'
    rw [Blk, h2] at h2'
    simp only [Option.some.injEq, Obj.cells.injEq] at h2'
    have hu : u = u' := by
      have := h2'.1
      simp at this
      exact this.2.2
    subst hu
    have := ErrAt.same h3 h3'
    simp [this]
/-- How many errors hang on one another. -/
noncomputable def lenOf (w : World) (v : Value) : Nat := by
  classical
  exact if h : ∃ r, ErrAt w v r then h.choose.length else 0
theorem lenOf_eq {w : World} {v : Value} {r : List (Int × List UInt8)} (h : ErrAt w v r) : lenOf w v = r.length := by
  unfold lenOf
  have hx : ∃ r, ErrAt w v r := ⟨r, h⟩
  rw [dif_pos hx]
  exact hx.choose_spec.same h

set_option maxHeartbeats 2000000 in
theorem ftrail_any (v : Value) (l : List (Int × List UInt8)) (w : World) (h : ErrAt w v l) (hl : l.length ≤ 1000) :
    Calls Tryd.prog 15 #[v] w fun e w' => ∃ u, e = .returned u ∧ Upd [] w w' ∧ StrRow w.heap.size w' u (trailOf l) := by
  have H0 := hd h
  have hs := h.shape
  have h3 := assertFault
  go_enter Tryd.func15, Tryd.ntmps15
  go_wp2_with fail
  go_loopw [0, 3] (fun s0 s3 wr => ∃ (m r : List (Int × List UInt8)), l = m ++ r ∧ ErrAt wr s0 r ∧ Upd [] w wr ∧ StrRow w.heap.size wr s3 (trailOf m)) (fun s0 _ wr => lenOf wr s0)
  case atStart => exact ⟨[], l, rfl, H0.out, Upd.refl _ _, World.ownsRow_nil _ _ _ _⟩
  case round =>
    obtain ⟨m, r, hlr, he, hu, hrow⟩ := hrel
    have HN := hd (lenOf_eq he)
    have HE := hd he
    match r, he with
    | [], he =>
      obtain rfl := he
      rw [List.append_nil] at hlr
      subst hlr
      obtain ⟨a3, c3, rfl, -⟩ := own_open hrow
      go_wp2_with fail
      go_ret
      exact ⟨_, rfl, hu, hrow⟩
    | (c, s) :: r, ⟨k, u, h1, h2, h3'⟩ =>
      subst h1
      have hcb := h2.cell
      have HU := hd hu
      have HB := hd h2
      have HR := hd h3'
      have HROW := hd hrow
      obtain ⟨a3, c3, rfl, -⟩ := own_open hrow
      have hn3 : (trailOf m).length ≤ 1000000 := by
        have h1 : ∀ q : List (Int × List UInt8), (trailOf q).length ≤ q.length := fun q => by
          induction q with
          | nil => exact Nat.le_refl _
          | cons x q ih =>
            obtain ⟨c, s⟩ := x
            unfold trailOf
            split
            · simp; omega
            · simp; omega
        have := h1 m
        have : m.length ≤ l.length := by rw [hlr, List.length_append]; omega
        omega
      have hlr' : l = (m ++ [(c, s)]) ++ r := by rw [hlr]; simp
      have htr : trailOf (m ++ [(c, s)]) = if s = [] then trailOf m else trailOf m ++ [s] := by
        clear hlr hlr' hn3 HROW hrow HN HE HB HR h2 h3' hcb
        induction m with
        | nil => simp [trailOf]
        | cons x q ih =>
          obtain ⟨c', s'⟩ := x
          simp only [List.cons_append, trailOf, ih]
          by_cases h1 : s' = [] <;> by_cases h2 : s = [] <;> simp [h1, h2]
      have HT := hd htr
      have HLR := hd hlr'
      clear hu h2 h3' hrow htr hlr hlr' H0
      by_cases hsn : s = []
      · subst hsn
        rw [if_pos rfl] at HT
        have hse : (txt []).toList.isEmpty = true := by rw [txt_list]; rfl
        go_wp2_with fail
        refine (unwrap_any k _ _ u wr HB.out).mono ?_
        rintro e w1 ⟨rfl, rfl⟩
        go_wp2_with fail
        go_roundw
        case rel => exact ⟨m ++ [(c, [])], r, HLR.out, HR.out, HU.out, by rw [HT.out]; exact HROW.out⟩
        case measure =>
          rw [HN.out, lenOf_eq HR.out]
          simp
      · rw [if_neg hsn] at HT
        have hse : (txt s).toList.isEmpty = false := by rw [txt_list]; simpa using hsn
        clear hsn
        have hsz := HU.out.size
        go_wp2_with (at_builtin; refine strAppend rfl (.tmp 16) (.tmp 21) rfl w.heap.size _ (trailOf m) s rfl (own_upd (L := []) HROW.out ((Upd.refl _ _).alloc _) (by simp)) wr.heap.size rfl (Blk.new _ _ _) ?d1 ?d2 ?_)
        case d1 => exact hn3
        case d2 => simp; omega
        intro v5 w5 hown5 hgr5 hblk5
        have HU5 := hd ((HU.out.alloc (.cells #[.string (txt s)] 9)).trans' hgr5 (fun i hi => .inr (own_ge HROW.out i (by simpa using hi)).1))
        have hru : Upd (Value.slice a3 (trailOf m).length c3).ownBlock.toList wr w5 := ((Upd.refl _ wr).alloc (.cells #[.string (txt s)] 9)).trans hgr5
        have HR5 := hd (HR.out.keep hru (fun k' c' hb hm => own_ne_any HROW.out hb (by decide) k' (by simpa using hm) rfl))
        have HB5 := hd (HB.out.upd hru (fun hm => own_ne_any HROW.out HB.out (by decide) k (by simpa using hm) rfl))
        have HO5 := hd hown5
        obtain ⟨a5, c5, rfl, -⟩ := own_open hown5
        clear hown5 hgr5 hblk5 hru
        go_wp2_with fail
        refine (unwrap_any k _ _ u w5 HB5.out).mono ?_
        rintro e w1 ⟨rfl, rfl⟩
        go_wp2_with fail
        go_roundw
        case rel => exact ⟨m ++ [(c, s)], r, HLR.out, HR5.out, HU5.out, by rw [HT.out, show (trailOf m).length + 1 = (trailOf m ++ [s]).length by simp]; exact HO5.out⟩
        case measure =>
          rw [HN.out, lenOf_eq HR5.out]
          simp
end Go.Proofs.YtfhmdeamhmjddaaDoor
