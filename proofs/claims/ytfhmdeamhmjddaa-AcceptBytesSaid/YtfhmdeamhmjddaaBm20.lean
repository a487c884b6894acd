/-
  accept.Get, walked. Condition: a text of a size that there is.
-/
import Derived.Test.YtfhmdeamhmjddaaBm19
set_option linter.unusedVariables false
set_option linter.unusedSimpArgs false
set_option maxRecDepth 100000
namespace Go.Proofs.Ytfhmdeamhmjddaa
open Go.RowKit

abbrev EntRow (B : Nat) (w : World) (v : Value) (l : List EntS) : Prop := w.ownsRow B 85 4 v l.length (entCells l)
/-- One entry appended, at a step of a region that draws. -/
theorem stepEntry {ops : Array Oper} {o : Oper} {a : Act} {w : World} {K : Act → World → Prop} {Q : Exit → Act → World → Prop} {E : Prop} (hgd : o.guard = none) (s x : Operand)
    (ho : o.op = .call { callee := .builtin .append, args := #[s, x], argTypes := #[39, 39] })
    (B : Nat) (v : Value) (l : List EntS) (e : EntS) (hs : a.eval s = v) (hown : EntRow B w v l) (k : Nat) (hx : a.eval x = .slice (some ⟨k, 0, none⟩) 1 1) (hb : Blk w k #[.int .i64 e.slot, .int .u64 e.bal.c, .int .i64 e.bal.n, .string e.text] 85)
    (hl : l.length ≤ 1000) (hB : B ≤ w.heap.size)
    (h : ∀ g cap w', EntRow B w' (.slice (some ⟨g, 0, none⟩) (l.length + 1) cap) (l ++ [e]) → Upd v.ownBlock.toList w w' → (v.ownBlock = some g ∨ g = w.heap.size) → K (a.put o.dst (.slice (some ⟨g, 0, none⟩) (l.length + 1) cap)) w') :
    if Region.wanted o (yielded ops a.tmps) = true then Oper.wp Try.prog o a w K Q else E := by
  obtain ⟨i0, hinf, hz0, hz1, hz2⟩ := info_parts Try.infoEnt
  refine step_append_lies w hgd s x 39 ho B 85 i0 _ 4 40 Try.underlying39 hinf hz0 hz1 hz2 rfl (by decide) v l.length (entCells l) hs hown ⟨k, 0, none⟩ 1 1 [.int .i64 e.slot, .int .u64 e.bal.c, .int .i64 e.bal.n, .string e.text] hx rfl (fun j u hj => by rw [Addr.add_lit, Nat.zero_add, Blk.cell hb j]; simpa using hj)
    (by intro u hu; simp only [List.mem_cons, List.not_mem_nil, or_false] at hu; rcases hu with rfl | rfl | rfl | rfl <;> rfl) (by decide) (by unfold maxLen; omega) (by omega) hB w.heap.size rfl ?_
  intro g cap w' hown' hgr hat _
  refine h g cap w' ?_ (Upd.of_grown hgr) hat
  unfold EntRow
  rw [List.length_append]
  have e3 : entCells (l ++ [e]) = entCells l ++ [.int .i64 e.slot, .int .u64 e.bal.c, .int .i64 e.bal.n, .string e.text] := by simp [entCells, EntS.cells]
  rw [e3]
  exact hown'

/-- What Get leaves. -/
def GetOut (B : Nat) (o : Option AccS) (x : Ending) (w : World) : Prop :=
  match o with
  | none => x = .returned (.pointer none)
  | some d => ∃ b l, x = .returned (.pointer (some ⟨b, 0, none⟩)) ∧ B ≤ b ∧ AccAt B w b l d
theorem set12 {w : World} {k T : Nat} {a0 a1 a2 a3 : Value} (h : Blk w k #[a0, a1, a2, a3] T) (v1 v2 : Value) :
    ∃ W, ((w.setCell ⟨k, 1, none⟩ v1).setCell ⟨k, 2, none⟩ v2) = W ∧ Upd [k] w W ∧ Blk W k #[a0, v1, v2, a3] T := by
  have h0 : Blk _ k #[a0, v1, a2, a3] T := h.set 1 v1
  have h1 : Blk _ k #[a0, v1, v2, a3] T := h0.set 2 v2
  have hx := Upd.refl [k] w
  exact ⟨_, rfl, (by repeat (first | with_reducible exact hx | with_reducible exact Upd.refl _ _ | with_reducible refine Upd.alloc ?_ _ | with_reducible refine Upd.drew ?_ | with_reducible refine Upd.setCell ?_ (by first | (simp; done) | (simp; omega)) _)), h1⟩
theorem set12a {w : World} {k T : Nat} {a0 a1 a2 a3 a4 a5 a6 : Value} (h : Blk w k #[a0, a1, a2, a3, a4, a5, a6] T) (v1 v2 : Value) :
    ∃ W, ((w.setCell ⟨k, 1, none⟩ v1).setCell ⟨k, 2, none⟩ v2) = W ∧ Upd [k] w W ∧ Blk W k #[a0, v1, v2, a3, a4, a5, a6] T := by
  have h0 : Blk _ k #[a0, v1, a2, a3, a4, a5, a6] T := h.set 1 v1
  have h1 : Blk _ k #[a0, v1, v2, a3, a4, a5, a6] T := h0.set 2 v2
  have hx := Upd.refl [k] w
  exact ⟨_, rfl, (by repeat (first | with_reducible exact hx | with_reducible exact Upd.refl _ _ | with_reducible refine Upd.alloc ?_ _ | with_reducible refine Upd.drew ?_ | with_reducible refine Upd.setCell ?_ (by first | (simp; done) | (simp; omega)) _)), h1⟩
theorem entry_left (r : RdS) (last most : Int) : (entryOf r last most).2.left.length ≤ r.left.length := by
  have h1 := N_left r 1099511627776
  unfold entryOf
  simp only
  generalize hq : (if (r.N 1099511627776).1 ≤ last then (r.N 1099511627776).2.fail 4 else (r.N 1099511627776).2) = q
  have h2 : q.left.length ≤ r.left.length := by rw [← hq]; split <;> (try rw [fail_left]) <;> exact h1
  have h3 := bal_left q
  have h4 := N_left q.bal.2 most
  have h5 := (take_le (q.bal.2.N most).2 (q.bal.2.N most).1.toNat).2
  show ((q.bal.2.N most).2.take (q.bal.2.N most).1.toNat).2.left.length ≤ r.left.length
  omega

theorem ents_left (most : Int) : ∀ (n : Nat) (r : RdS) (last : Int), (entsOf most n r last).2.left.length ≤ r.left.length
  | 0, r, last => Nat.le_refl _
  | n + 1, r, last => by
    rw [entsOf]
    split
    · have h1 := entry_left r last most
      have h2 := ents_left most n (entryOf r last most).2 (entryOf r last most).1.slot
      simp only
      omega
    · exact Nat.le_refl _
/-- The acceptor while its entries are read. -/
def AccPart (B : Nat) (w : World) (b : Nat) (l : Value) (wit : Bool) (bal : BalS) (base : Int) (es : List EntS) : Prop :=
  Blk w b #[.bool wit, .int .u64 bal.c, .int .i64 bal.n, .int .i64 base, l, .int .i64 0, .int .i64 0] 76 ∧ EntRow B w l es
theorem AccPart.rd {B b k : Nat} {l : Value} {wit : Bool} {bal : BalS} {base : Int} {es : List EntS} {w w' : World} {r : RdS} (h : AccPart B w b l wit bal base es) (hr : RdAt w k r) (hu : Upd [k] w w') : AccPart B w' b l wit bal base es :=
  ⟨h.1.upd hu (by simpa using blk_ne h.1 hr (by decide)), own_upd h.2 hu (fun g hg hm => own_ne_any h.2 hr (by decide) g hg (by simpa using hm))⟩
theorem AccPart.new {B b k : Nat} {l : Value} {wit : Bool} {bal : BalS} {base : Int} {es : List EntS} {w w' : World} (h : AccPart B w b l wit bal base es) (hu : Upd [k] w w') (hb : b < k) (hl : ∀ g, l.ownBlock = some g → g < k) : AccPart B w' b l wit bal base es :=
  ⟨h.1.upd hu (by simp; omega), own_upd h.2 hu (fun g hg hm => by have := hl g hg; simp at hm; omega)⟩
theorem AccPart.later {B b : Nat} {l : Value} {wit : Bool} {bal : BalS} {base : Int} {es : List EntS} {w w' : World} (h : AccPart B w b l wit bal base es) (hu : Upd [] w w') : AccPart B w' b l wit bal base es :=
  ⟨h.1.upd hu (by simp), own_upd h.2 hu (by simp)⟩

set_option maxHeartbeats 16000000 in
theorem aget_any (r : RdS) (wit : Bool) (k : Nat) (w : World) (h : RdAt w k r) (hl : r.left.length ≤ 1099511627776) :
    Calls Try.prog 30 #[.pointer (some ⟨k, 0, none⟩), .bool wit] w fun x w' => GetOut w.heap.size (accOf r wit).1 x w' ∧ Upd [k] w w' ∧ RdAt w' k (accOf r wit).2 := by
  have hkl := h.lt
  have hml : 0 ≤ mostOf wit ∧ mostOf wit ≤ 400 := by unfold mostOf; split <;> decide
  have HX := hd (show accOf r wit = (if (if ((entsOf (mostOf wit) ((r.bal.2.N 1099511627776).2.N 64).1.toNat ((r.bal.2.N 1099511627776).2.N 64).2 (r.bal.2.N 1099511627776).1).2.N 12).1 = 0 ∧ 0 < (((entsOf (mostOf wit) ((r.bal.2.N 1099511627776).2.N 64).1.toNat ((r.bal.2.N 1099511627776).2.N 64).2 (r.bal.2.N 1099511627776).1).2.N 12).2.N 1099511627776).1 then (((entsOf (mostOf wit) ((r.bal.2.N 1099511627776).2.N 64).1.toNat ((r.bal.2.N 1099511627776).2.N 64).2 (r.bal.2.N 1099511627776).1).2.N 12).2.N 1099511627776).2.fail 4 else (((entsOf (mostOf wit) ((r.bal.2.N 1099511627776).2.N 64).1.toNat ((r.bal.2.N 1099511627776).2.N 64).2 (r.bal.2.N 1099511627776).1).2.N 12).2.N 1099511627776).2).err = 0
    then some ⟨wit, r.bal.1, (r.bal.2.N 1099511627776).1, (entsOf (mostOf wit) ((r.bal.2.N 1099511627776).2.N 64).1.toNat ((r.bal.2.N 1099511627776).2.N 64).2 (r.bal.2.N 1099511627776).1).1, ((entsOf (mostOf wit) ((r.bal.2.N 1099511627776).2.N 64).1.toNat ((r.bal.2.N 1099511627776).2.N 64).2 (r.bal.2.N 1099511627776).1).2.N 12).1, (((entsOf (mostOf wit) ((r.bal.2.N 1099511627776).2.N 64).1.toNat ((r.bal.2.N 1099511627776).2.N 64).2 (r.bal.2.N 1099511627776).1).2.N 12).2.N 1099511627776).1⟩ else none,
    if ((entsOf (mostOf wit) ((r.bal.2.N 1099511627776).2.N 64).1.toNat ((r.bal.2.N 1099511627776).2.N 64).2 (r.bal.2.N 1099511627776).1).2.N 12).1 = 0 ∧ 0 < (((entsOf (mostOf wit) ((r.bal.2.N 1099511627776).2.N 64).1.toNat ((r.bal.2.N 1099511627776).2.N 64).2 (r.bal.2.N 1099511627776).1).2.N 12).2.N 1099511627776).1 then (((entsOf (mostOf wit) ((r.bal.2.N 1099511627776).2.N 64).1.toNat ((r.bal.2.N 1099511627776).2.N 64).2 (r.bal.2.N 1099511627776).1).2.N 12).2.N 1099511627776).2.fail 4 else (((entsOf (mostOf wit) ((r.bal.2.N 1099511627776).2.N 64).1.toNat ((r.bal.2.N 1099511627776).2.N 64).2 (r.bal.2.N 1099511627776).1).2.N 12).2.N 1099511627776).2) from rfl)
  have HBG := hd (fun W (h : RdAt W k r) => bget_any r k W h hl)
  have hbl := bal_left r
  have HN1 := hd (fun W (h : RdAt W k r.bal.2) => N_rd r.bal.2 1099511627776 k W h (by omega) (by decide) (by decide))
  have hnl := N_left r.bal.2 1099511627776
  have HN2 := hd (fun W (h : RdAt W k (r.bal.2.N 1099511627776).2) => N_rd (r.bal.2.N 1099511627776).2 64 k W h (by omega) (by decide) (by decide))
  have hcl := N_left (r.bal.2.N 1099511627776).2 64
  have hcr := N_rng (r.bal.2.N 1099511627776).2 64 (by decide)
  have hbr := N_rng r.bal.2 1099511627776 (by decide)
  generalize accOf r wit = OUT at *
  generalize (r.bal.2.N 1099511627776).2.N 64 = C at *
  generalize r.bal.2.N 1099511627776 = BS at *
  generalize r.bal = BL at *
  obtain ⟨cnt, q3⟩ := C
  obtain ⟨base, q2⟩ := BS
  obtain ⟨bal, q1⟩ := BL
  simp only at HX HBG HN1 HN2 hbl hnl hcl hcr hbr
  obtain ⟨cnt, rfl⟩ : ∃ n : Nat, cnt = n := ⟨cnt.toNat, by omega⟩
  rw [Int.toNat_natCast] at HX
  have H := hd h
  clear h
  go_enter Try.func30, Try.ntmps30
  go_wp2_with fail
  refine (anew_any wit w).mono ?_
  rintro x w1 ⟨rfl, hu1, ha1, hlt1⟩
  obtain ⟨b, hb⟩ : ∃ b, b = w.heap.size := ⟨_, rfl⟩
  rw [← hb] at hlt1 ⊢
  have hwb : w.heap.size ≤ b := by omega
  have hkb : k < b := by omega
  have HB1 := hd (show Blk w1 b #[.bool wit, .int .u64 0, .int .i64 0, .int .i64 0, .slice none 0 0, .int .i64 0, .int .i64 0] 76 by rw [hb]; exact ha1.blk)
  have HU1 := hd hu1
  have HR1 := hd (H.out.upd hu1 (by simp))
  have hBe := hd hb
  clear hu1 ha1 hb
  go_wp2_with fail
  refine (HBG.out w1 HR1.out).mono ?_
  rintro x w2 ⟨rfl, hu2, hr2⟩
  have hB2 := HB1.out.upd hu2 (by simp; omega)
  have hbq := hB2.cell
  have hbz := hB2.frozen
  obtain ⟨W2, e2, u2, b2⟩ := set12a hB2 (.int .u64 bal.c) (.int .i64 bal.n)
  have HE2 := hd e2
  have HU2 := hd (((HU1.out.mono (by simp)).trans hu2).trans' u2 (by intro i hi; simp at hi; omega))
  have HR2 := hd (Blk.upd hr2 u2 (by simp; omega))
  have HB2 := hd b2
  clear e2 u2 b2 hu2 hr2 hB2
  go_upto_region 3 with fail
  rw [HE2.out]
  clear hbq hbz HE2
  go_wp2_with fail
  refine (HN1.out W2 HR2.out).mono ?_
  rintro x w3 ⟨rfl, hu3, hr3⟩
  have hB3 := HB2.out.upd hu3 (by simp; omega)
  have hbq := hB3.cell
  have hbz := hB3.frozen
  have e3 : ∃ W3, w3.setCell ⟨b, 3, none⟩ (.int .i64 base) = W3 ∧ Upd [k] w W3 ∧ RdAt W3 k q2 ∧ Blk W3 b #[.bool wit, .int .u64 bal.c, .int .i64 bal.n, .int .i64 base, .slice none 0 0, .int .i64 0, .int .i64 0] 76 :=
    ⟨_, rfl, (HU2.out.trans hu3).trans' ((Upd.refl [b] _).setCell (by simp) _) (by intro i hi; simp at hi; omega), Blk.set_other hr3 (by simp; omega) _, hB3.set 3 _⟩
  clear hu3 hr3 hB3
  go_upto_region 4 with fail
  obtain ⟨W3, hW3, hu3, hr3, hb3⟩ := e3
  rw [hW3]
  clear hW3 hbq hbz
  have HU3 := hd hu3
  have HR3 := hd hr3
  have HB3 := hd hb3
  clear hu3 hr3 hb3
  go_upto_if 22 with fail
  go_cut [6] (fun s6 wx => s6 = .int .i64 (mostOf wit) ∧ wx = W3)
  case first =>
    rcases wit with _ | _
    · go_wp2_with fail
      go_meet
      case rel => exact ⟨rfl, rfl⟩
    · go_wp2_with fail
      go_meet
      case rel => exact ⟨rfl, rfl⟩
  case rest =>
    obtain ⟨rfl, rfl⟩ := hcut
    generalize mostOf wit = most at *
    have hbq := HB3.out.cell
    go_wp2_with fail
    refine (HN2.out wc HR3.out).mono ?_
    rintro x w4 ⟨rfl, hu4, hr4⟩
    have HU4 := hd (HU3.out.trans hu4)
    have HR4 := hd hr4
    have HA4 := hd (show AccPart w.heap.size w4 b (.slice none 0 0) wit bal base [] from ⟨HB3.out.upd hu4 (by simp; omega), World.ownsRow_nil _ _ _ _⟩)
    clear hu4 hr4 hbq
    go_upto_block 0 with fail
    go_cut [] (fun wx => ∃ l, Upd [k] w wx ∧ RdAt wx k (entsOf most cnt q3 base).2 ∧ AccPart w.heap.size wx b l wit bal base (entsOf most cnt q3 base).1)
    case first =>
      go_wp2_with fail
      go_loopw [7, 8] (fun s7 s8 wr => ∃ (m : Nat) (last : Int) (q : RdS) (es : List EntS) (l : Value), m ≤ 64 ∧ s8 = .int .i64 m ∧ s7 = .int .i64 last ∧ Upd [k] w wr ∧ RdAt wr k q ∧ AccPart w.heap.size wr b l wit bal base es ∧ q.left.length ≤ 1099511627776 ∧ es.length + m ≤ 64 ∧ Hd (es ++ (entsOf most m q last).1 = (entsOf most cnt q3 base).1 ∧ (entsOf most m q last).2 = (entsOf most cnt q3 base).2)) (fun _ s8 _ => (intOf s8).toNat)
      case atStart => exact ⟨cnt, base, q3, [], _, by omega, rfl, rfl, HU4.out, HR4.out, HA4.out, by omega, by simp; omega, ⟨rfl, rfl⟩⟩
      case round =>
        obtain ⟨m, last, q, es, l, hm, rfl, rfl, hu, hr, ha, hql, hel, hEQ⟩ := hrel
        have HU := hd hu
        have HR := hd hr
        have HA := hd ha
        clear hu hr ha
        by_cases hm0 : m = 0
        · subst hm0
          have HQ := hd (show es = (entsOf most cnt q3 base).1 ∧ q = (entsOf most cnt q3 base).2 by
            obtain ⟨h1, h2⟩ := hEQ.out
            rw [entsOf] at h1 h2
            exact ⟨by rw [← h1]; simp, h2⟩)
          go_wp2_with fail
          go_meet
          case rel => rw [← HQ.out.1, ← HQ.out.2]; exact ⟨l, HU.out, HR.out, HA.out⟩
        · obtain ⟨m, rfl⟩ : ∃ j, m = j + 1 := ⟨m - 1, by omega⟩
          have hm' : (0 : Int) < ((m + 1 : Nat) : Int) := by omega
          have hm2 : (0 : Int) < (m : Int) + 1 := by omega
          clear hm0
          by_cases he : q.err = 0
          · have he' : (q.err == 0) = true := by simp [he]
            have hEQ2 := hd (show es ++ ((entryOf q last most).1 :: (entsOf most m (entryOf q last most).2 (entryOf q last most).1.slot).1) = (entsOf most cnt q3 base).1 ∧ (entsOf most m (entryOf q last most).2 (entryOf q last most).1.slot).2 = (entsOf most cnt q3 base).2 by
              obtain ⟨h1, h2⟩ := hEQ.out
              rw [entsOf, if_pos he] at h1 h2
              exact ⟨h1, h2⟩)
            have helf := entry_left q last most
            have HE := hd (show entryOf q last most = (⟨(q.N 1099511627776).1, (if (q.N 1099511627776).1 ≤ last then (q.N 1099511627776).2.fail 4 else (q.N 1099511627776).2).bal.1, txt ((if (q.N 1099511627776).1 ≤ last then (q.N 1099511627776).2.fail 4 else (q.N 1099511627776).2).bal.2.S most).1⟩, ((if (q.N 1099511627776).1 ≤ last then (q.N 1099511627776).2.fail 4 else (q.N 1099511627776).2).bal.2.S most).2) from rfl)
            have HNQ := hd (fun W (h : RdAt W k q) => N_rd q 1099511627776 k W h hql (by decide) (by decide))
            have hnl := N_left q 1099511627776
            generalize q.N 1099511627776 = SN at *
            obtain ⟨sv, qa⟩ := SN
            simp only at HE HNQ hnl
            have HFQ := hd (fun W (h : RdAt W k qa) => fail_rd qa 4 k W h)
            obtain ⟨qb, hqb⟩ : ∃ qb, qb = if sv ≤ last then qa.fail 4 else qa := ⟨_, rfl⟩
            have hqbl : qb.left.length ≤ q.left.length := by rw [hqb]; split <;> (try rw [fail_left]) <;> exact hnl
            rw [← hqb] at HE
            have HQB := hd hqb
            clear hqb
            have HBQ := hd (fun W (h : RdAt W k qb) => bget_any qb k W h (by omega))
            have hbl2 := bal_left qb
            generalize qb.bal = BQ at *
            obtain ⟨eb, qc⟩ := BQ
            simp only at HE HBQ hbl2
            have HSQ := hd (fun W (h : RdAt W k qc) => S_rd qc most k W h (by omega) hml.1 (by omega))
            generalize qc.S most = SQ at *
            obtain ⟨tx, qd⟩ := SQ
            simp only at HE HSQ
            rw [HE.out] at hEQ2 helf
            simp only at hEQ2 helf
            clear HE he hEQ hnl
            go_wp2_with fail
            refine (err_rd q k wr HR.out).mono ?_
            rintro x w5 ⟨rfl, rfl⟩
            go_wp2_with fail
            refine (HNQ.out wr HR.out).mono ?_
            rintro x w5 ⟨rfl, hu5, hr5⟩
            have e5 : ∃ W5 ke, w5.heap.size = ke ∧ w5.alloc (.cells #[.int .i64 sv, .int .u64 0, .int .i64 0, .string ⟨#[]⟩] 85) = W5 ∧ Upd [] w5 W5 ∧ Blk W5 ke #[.int .i64 sv, .int .u64 0, .int .i64 0, .string ⟨#[]⟩] 85 := ⟨_, _, rfl, rfl, (Upd.refl _ _).alloc _, Blk.new _ _ _⟩
            have HU5 := hd (HU.out.trans hu5)
            have HR5 := hd hr5
            have HA5 := hd (HA.out.rd HR.out hu5)
            have hs5 := hu5.size
            have HOL := hd (show ∀ g, l.ownBlock = some g → g < wr.heap.size from fun g hg => (own_ge HA.out.2 g hg).2)
            have hbl5 := HA5.out.1.lt
            have hkl5 := HR5.out.lt
            clear hu5 hr5
            go_upto_region 12 with fail
            obtain ⟨W5, ke, hke, hW5, hu5, hb5⟩ := e5
            rw [hW5, hke]
            have hkeb : b < ke := by omega
            have hkek : k < ke := by omega
            have hkel : wr.heap.size ≤ ke := by omega
            have hkew : w.heap.size ≤ ke := by have := HU5.out.size; omega
            clear hW5 hke
            have HU6 := hd (HU5.out.trans (hu5.mono (by simp)))
            have HR6 := hd (HR5.out.upd hu5 (by simp))
            have HA6 := hd (HA5.out.later hu5)
            have HB6 := hd hb5
            clear hu5 hb5 HU5 HR5 HA5
            have hec := HB6.out.cell
            go_upto_if 44 with fail
            go_cut [] (fun wx => Upd [k] W5 wx ∧ RdAt wx k qb)
            case first =>
              by_cases hlt : sv ≤ last
              · have HI := hd (HQB.out.trans (if_pos hlt))
                go_wp2_with fail
                refine (HFQ.out W5 HR6.out).mono ?_
                rintro x w7 ⟨rfl, hu7, hr7⟩
                have HU7 := hd hu7
                have HR7 := hd hr7
                clear hu7 hr7
                go_wp2_with fail
                go_meet
                case rel => rw [HI.out]; exact ⟨HU7.out, HR7.out⟩
              · have HI := hd (HQB.out.trans (if_neg hlt))
                go_wp2_with fail
                go_meet
                case rel => rw [HI.out]; exact ⟨Upd.refl _ _, HR6.out⟩
            case rest =>
              obtain ⟨hu7, hr7⟩ := hcut
              have HU7 := hd (HU6.out.trans hu7)
              have HR7 := hd hr7
              have HA7 := hd (HA6.out.rd HR6.out hu7)
              have HB7 := hd (HB6.out.upd hu7 (by simp; omega))
              clear hu7 hr7 hec HQB HU6 HR6 HA6 HB6
              go_wp2_with fail
              refine (HBQ.out wc HR7.out).mono ?_
              rintro x w8 ⟨rfl, hu8, hr8⟩
              have hB8 := HB7.out.upd hu8 (by simp; omega)
              have hec := hB8.cell
              have hez := hB8.frozen
              obtain ⟨W8, e8, u8, b8⟩ := set12 hB8 (.int .u64 eb.c) (.int .i64 eb.n)
              have HE8 := hd e8
              have HU8 := hd ((HU7.out.trans hu8).trans' u8 (by intro i hi; simp at hi; omega))
              have HR8 := hd (Blk.upd hr8 u8 (by simp; omega))
              have HA8 := hd ((HA7.out.rd HR7.out hu8).new u8 hkeb (fun g hg => by have := HOL.out g hg; omega))
              have HB8 := hd b8
              clear e8 u8 b8 hu8 hr8 hB8
              go_upto_region 15 with fail
              rw [HE8.out]
              clear hec hez HE8
              go_wp2_with fail
              refine (HSQ.out W8 HR8.out).mono ?_
              rintro x w9 ⟨rfl, hu9, hr9⟩
              have hB9 := HB8.out.upd hu9 (by simp; omega)
              have hec := hB9.cell
              have hez := hB9.frozen
              have e9 : ∃ W9, w9.setCell ⟨ke, 3, none⟩ (.string (txt tx)) = W9 ∧ Upd [ke] w9 W9 ∧ Blk W9 ke #[.int .i64 sv, .int .u64 eb.c, .int .i64 eb.n, .string (txt tx)] 85 := ⟨_, rfl, (Upd.refl _ _).setCell (by simp) _, hB9.set 3 _⟩
              go_upto_region 16 with fail
              obtain ⟨W9, hW9, u9, b9⟩ := e9
              rw [hW9]
              clear hW9 hec hez
              have HU9 := hd ((HU8.out.trans hu9).trans' u9 (by intro i hi; simp at hi; omega))
              have HR9 := hd (Blk.upd hr9 u9 (by simp; omega))
              have HA9 := hd ((HA8.out.rd HR8.out hu9).new u9 hkeb (fun g hg => by have := HOL.out g hg; omega))
              have HB9 := hd b9
              have hs9 := HU9.out.size
              clear u9 b9 hu9 hr9 hB9
              have hec := HB9.out.cell
              have hbc := HA9.out.1.cell
              have hblt := HA9.out.1.lt
              have hkelt := HB9.out.lt
              go_upto_region 17 with fail
              go_region_law ((refine stepEntry (by rfl) _ _ (by rfl) w.heap.size l es ⟨sv, eb, txt tx⟩ (by rfl) (own_upd (L := []) HA9.out.2 (((Upd.refl _ _).drew).alloc _) (fun _ _ => by simp)) W9.heap.size (by rfl) (by repeat (first | with_reducible exact Blk.new _ _ _ | with_reducible exact Blk.new' _ _ _ (by simp) | with_reducible refine Blk.drew ?_)) (by omega) (by simp; omega) ?_; intro g cap w10 hown hgr hat; have hq := Blk.upd ((HA9.out.1.alloc _).drew) hgr (fun hm => own_ne_any HA9.out.2 HA9.out.1 (by decide) b (by simpa using hm) rfl); have hqc := hq.cell; have hqz := hq.frozen; have HQ := hd hq; have HOWN := hd hown; have HGR := hd hgr; have HAT := hd hat; clear hq hown hgr hat))
              all_goals
                go_wp2_with fail
                go_roundw
                case rel =>
                  have hgb : g ≠ b := by
                    rcases HAT.out with h1 | h1
                    · exact own_ne_any HA9.out.2 HA9.out.1 (by decide) g h1
                    · simp at h1; omega
                  refine ⟨m, sv, qd, es ++ [⟨sv, eb, txt tx⟩], .slice (some ⟨g, 0, none⟩) (es.length + 1) cap, by omega, by go_num, rfl, ?_, ?_, ⟨?_, ?_⟩, by omega, by simp; omega, ⟨by rw [List.append_assoc]; exact hEQ2.out.1, hEQ2.out.2⟩⟩
                  · exact (((HU9.out.alloc _).drew).trans' HGR.out (fun i hi => .inr (own_ge HA9.out.2 i (by simpa using hi)).1)).setCell (.inr hwb) _
                  · exact Blk.set_other (Blk.upd ((Blk.alloc HR9.out _).drew) HGR.out (fun hm => own_ne_any HA9.out.2 HR9.out (by decide) k (by simpa using hm) rfl)) (by simp; omega) _
                  · exact HQ.out.set 4 _
                  · have h1 := own_upd (L := [b]) HOWN.out ((Upd.refl _ _).setCell (p := ⟨b, 4, none⟩) (by simp) (.slice (some ⟨g, 0, none⟩) (es.length + 1) cap)) (by simpa [Value.ownBlock] using hgb)
                    exact h1
                case measure => simp [intOf]
          · have he' : (q.err == 0) = false := by simpa using he
            have HQ := hd (show es = (entsOf most cnt q3 base).1 ∧ q = (entsOf most cnt q3 base).2 by
              obtain ⟨h1, h2⟩ := hEQ.out
              rw [entsOf, if_neg he] at h1 h2
              exact ⟨by rw [← h1]; simp, h2⟩)
            clear he
            go_wp2_with fail
            refine (err_rd q k wr HR.out).mono ?_
            rintro x w5 ⟨rfl, rfl⟩
            go_wp2_with fail
            go_meet
            case rel => rw [← HQ.out.1, ← HQ.out.2]; exact ⟨l, HU.out, HR.out, HA.out⟩
    case rest =>
      obtain ⟨l, hu5, hr5, ha5⟩ := hcut
      have hel : (entsOf most cnt q3 base).2.left.length ≤ q3.left.length := ents_left most cnt q3 base
      generalize entsOf most cnt q3 base = ES at *
      obtain ⟨es, q4⟩ := ES
      simp only at HX hr5 ha5 hel
      have HNN := hd (fun W (h : RdAt W k q4) => N_rd q4 12 k W h (by omega) (by decide) (by decide))
      have hnl2 := N_left q4 12
      generalize q4.N 12 = NN at *
      obtain ⟨nv, q5⟩ := NN
      simp only at HX HNN hnl2
      have HNT := hd (fun W (h : RdAt W k q5) => N_rd q5 1099511627776 k W h (by omega) (by decide) (by decide))
      generalize q5.N 1099511627776 = NT at *
      obtain ⟨tv, q6⟩ := NT
      simp only at HX HNT
      have HFT := hd (fun W (h : RdAt W k q6) => fail_rd q6 4 k W h)
      obtain ⟨q7, hq7⟩ : ∃ q7, q7 = if nv = 0 ∧ 0 < tv then q6.fail 4 else q6 := ⟨_, rfl⟩
      rw [← hq7] at HX
      have HQ7 := hd hq7
      have HU5 := hd hu5
      have HR5 := hd hr5
      have HA5 := hd ha5
      clear hu5 hr5 ha5 hq7 hel hnl2 HU4 HR4 HA4
      have hbl5 := HA5.out.1.lt
      go_wp2_with fail
      refine (HNN.out wc HR5.out).mono ?_
      rintro x w6 ⟨rfl, hu6, hr6⟩
      have hA6 := HA5.out.rd HR5.out hu6
      have hbq := hA6.1.cell
      have hbz := hA6.1.frozen
      have e6 : ∃ W6, w6.setCell ⟨b, 5, none⟩ (.int .i64 nv) = W6 ∧ Upd [b] w6 W6 ∧ Blk W6 b #[.bool wit, .int .u64 bal.c, .int .i64 bal.n, .int .i64 base, l, .int .i64 nv, .int .i64 0] 76 ∧ EntRow w.heap.size W6 l es :=
        ⟨_, rfl, (Upd.refl _ _).setCell (by simp) _, hA6.1.set 5 _, own_upd (L := [b]) hA6.2 ((Upd.refl _ _).setCell (by simp) _) (fun g hg hm => own_ne_any hA6.2 hA6.1 (by decide) g hg (by simpa using hm))⟩
      go_upto_region 19 with fail
      obtain ⟨W6, hW6, u6, b6, o6⟩ := e6
      rw [hW6]
      clear hW6 hbq hbz
      have HU6 := hd ((HU5.out.trans hu6).trans' u6 (by intro i hi; simp at hi; omega))
      have HR6 := hd (Blk.upd hr6 u6 (by simp; omega))
      have HB6 := hd b6
      have HO6 := hd o6
      clear u6 b6 o6 hu6 hr6 hA6
      go_wp2_with fail
      refine (HNT.out W6 HR6.out).mono ?_
      rintro x w7 ⟨rfl, hu7, hr7⟩
      have hB7 := HB6.out.upd hu7 (by simp; omega)
      have hO7 := own_upd HO6.out hu7 (fun g hg hm => own_ne_any HO6.out HR6.out (by decide) g hg (by simpa using hm))
      have hbq := hB7.cell
      have hbz := hB7.frozen
      have e7 : ∃ W7, w7.setCell ⟨b, 6, none⟩ (.int .i64 tv) = W7 ∧ Upd [b] w7 W7 ∧ Blk W7 b #[.bool wit, .int .u64 bal.c, .int .i64 bal.n, .int .i64 base, l, .int .i64 nv, .int .i64 tv] 76 ∧ EntRow w.heap.size W7 l es :=
        ⟨_, rfl, (Upd.refl _ _).setCell (by simp) _, hB7.set 6 _, own_upd (L := [b]) hO7 ((Upd.refl _ _).setCell (by simp) _) (fun g hg hm => own_ne_any hO7 hB7 (by decide) g hg (by simpa using hm))⟩
      go_upto_region 20 with fail
      obtain ⟨W7, hW7, u7, b7, o7⟩ := e7
      rw [hW7]
      clear hW7 hbq hbz
      have HU7 := hd ((HU6.out.trans hu7).trans' u7 (by intro i hi; simp at hi; omega))
      have HR7 := hd (Blk.upd hr7 u7 (by simp; omega))
      have HB7 := hd b7
      have HO7 := hd o7
      clear u7 b7 o7 hu7 hr7 hB7 hO7 HU6 HR6 HB6 HO6
      have hbq := HB7.out.cell
      go_cut [91] (fun s91 wx => s91 = .bool (decide (nv = 0 ∧ 0 < tv)) ∧ wx = W7)
      case first =>
        by_cases h1 : nv = 0
        · have h1' : (nv == 0) = true := by simp [h1]
          by_cases h2 : 0 < tv
          · have HC := hd (show decide (nv = 0 ∧ 0 < tv) = true by simp [h1, h2])
            clear h1
            go_wp2_with fail
            go_meet
            case rel => rw [HC.out]; exact ⟨rfl, rfl⟩
          · have HC := hd (show decide (nv = 0 ∧ 0 < tv) = false by simp [h2])
            clear h1
            go_wp2_with fail
            go_meet
            case rel => rw [HC.out]; exact ⟨rfl, rfl⟩
        · have h1' : (nv == 0) = false := by simpa using h1
          have HC := hd (show decide (nv = 0 ∧ 0 < tv) = false by simp [h1])
          clear h1
          go_wp2_with fail
          go_meet
          case rel => rw [HC.out]; exact ⟨rfl, rfl⟩
      case rest =>
        obtain ⟨rfl, rfl⟩ := hcut
        clear hbq
        go_upto_if 91 with fail
        go_cut [] (fun wx => Upd [k] wc wx ∧ RdAt wx k q7)
        case first =>
          by_cases hc : nv = 0 ∧ 0 < tv
          · have HC := hd (show decide (nv = 0 ∧ 0 < tv) = true by simpa using hc)
            have HI := hd (HQ7.out.trans (if_pos hc))
            rw [HC.out]
            clear hc
            go_wp2_with fail
            refine (HFT.out wc HR7.out).mono ?_
            rintro x w8 ⟨rfl, hu8, hr8⟩
            have HU8 := hd hu8
            have HR8 := hd hr8
            clear hu8 hr8
            go_wp2_with fail
            go_meet
            case rel => rw [HI.out]; exact ⟨HU8.out, HR8.out⟩
          · have HC := hd (show decide (nv = 0 ∧ 0 < tv) = false by simpa using hc)
            have HI := hd (HQ7.out.trans (if_neg hc))
            rw [HC.out]
            clear hc
            go_wp2_with fail
            go_meet
            case rel => rw [HI.out]; exact ⟨Upd.refl _ _, HR7.out⟩
        case rest =>
          obtain ⟨hu8, hr8⟩ := hcut
          have HU8 := hd (HU7.out.trans hu8)
          have HR8 := hd hr8
          have HA8 := hd (show AccAt w.heap.size _ b l ⟨wit, bal, base, es, nv, tv⟩ from ⟨HB7.out.upd hu8 (by simp; omega), own_upd HO7.out hu8 (fun g hg hm => own_ne_any HO7.out HR7.out (by decide) g hg (by simpa using hm))⟩)
          clear hu8 hr8 HQ7 HFT
          go_wp2_with fail
          refine (err_rd q7 k _ HR8.out).mono ?_
          rintro x w9 ⟨rfl, rfl⟩
          by_cases he : q7.err = 0
          · have he' : (q7.err != 0) = false := by simp [he]
            have HY := hd (show OUT = (some ⟨wit, bal, base, es, nv, tv⟩, q7) by rw [HX.out, if_pos he])
            clear he
            go_wp2_with fail
            go_ret
            rw [HY.out]
            exact ⟨⟨b, l, rfl, hwb, HA8.out⟩, HU8.out, HR8.out⟩
          · have he' : (q7.err != 0) = true := by simpa using he
            have HY := hd (show OUT = (none, q7) by rw [HX.out, if_neg he])
            clear he
            go_wp2_with fail
            go_ret
            rw [HY.out]
            exact ⟨rfl, HU8.out, HR8.out⟩
end Go.Proofs.Ytfhmdeamhmjddaa
