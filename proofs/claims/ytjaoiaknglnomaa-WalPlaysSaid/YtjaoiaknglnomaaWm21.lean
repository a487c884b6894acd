/-
  chatelainelaw13.do, walked. Conditions: sizes that there are.
-/
import Derived.Test.YtjaoiaknglnomaaWm20
import Derived.Test.YtjaoiaknglnomaaWm0
import Derived.ProofKit
import Derived.Deep.Slices
import Derived.Deep.Fields
import Derived.ChangeSame
set_option linter.unusedVariables false
set_option linter.unusedSimpArgs false
set_option maxRecDepth 100000
namespace Go.Proofs.Ytjaoiaknglnomaa
open Go.RowKit

/-- A run as a value. -/
def RunAt (B : Nat) (w : World) (x : Value) (L : List (List UInt8)) (k : Nat) (O : List (List UInt8)) (had : Bool) : Prop :=
  ∃ vl vo, x = .agg #[vl, .int .i64 k, vo, .bool had] ∧ StrRow B w vl L ∧ StrRow B w vo O
theorem small_enc (g : Nat) (l : List (List UInt8)) (h : ∀ t ∈ l, t.length ≤ 40) : (encL g l).length ≤ 110 * l.length := by
  induction l with
  | nil => simp [encL]
  | cons t l ih =>
    have h1 := spellL_short g t (h t (by simp))
    have h2 := ih (fun u hu => h u (by simp [hu]))
    have h3 : encL g (t :: l) = spellL g t ++ encL g l := by simp [encL]
    rw [h3, List.length_append, List.length_cons]
    omega
theorem cutL6_small (l : List (List UInt8)) : (cutL6 l).length ≤ 6 ∧ ∀ t ∈ cutL6 l, t.length ≤ 40 := by
  constructor
  · unfold cutL6; rw [List.length_map, List.length_take]; omega
  · intro t ht
    unfold cutL6 at ht
    obtain ⟨u, _, rfl⟩ := List.mem_map.1 ht
    rw [List.length_take]; omega

theorem append_none_src {P : Program} (w : World) (t ty e : TypeId) (i : TypeInfo) (g : Nat) (ht : P.underlying t = some (.slice e)) (hi : P.info? e = some i) :
    (Builtin.append_ #[t, t] ty #[.slice (some ⟨g, 0, none⟩) 0 0, .slice none 0 0]).run P w = .ok (.slice (some ⟨g, 0, none⟩) 0 0) w := by
  simp [Builtin.append_, run_underlying ht, sizeOf, typeInfo, hi, Builtin.lenOf, run_firstCells_none, Question.forced, storeCells]

theorem nilAppend {ops : Array Oper} {rest : List Oper} {o : Oper} {a : Act} {w : World} {Q : Exit → Act → World → Prop} (hgd : o.guard = none) (s x : Operand)
    (ho : o.op = .call { callee := .builtin .append, args := #[s, x], argTypes := #[60, 60] }) (g : Nat) (hs : a.eval s = .slice (some ⟨g, 0, none⟩) 0 0) (hx : a.eval x = .slice none 0 0)
    (h : wpList Try.prog ops Q rest (a.put o.dst (.slice (some ⟨g, 0, none⟩) 0 0)) w) : wpList Try.prog ops Q (o :: rest) a w := by
  obtain ⟨i0, hinf, hz0, hz1, hz2⟩ := info_parts Try.infoStr
  have hr := append_none_src (P := Try.prog) w 60 o.type 9 i0 g Try.underlying60 hinf
  refine wpList_plain hgd fun K hK => ?_
  unfold Oper.wp execOp
  simp only [ho, resolve, invoke, builtin, Sem.run_bind, Sem.run_pure, Result.andThen_ok, List.map_toArray, List.map_cons, List.map_nil, hs, hx, hr]
  exact hK _ _ h
theorem set4 {w : World} {k T : Nat} {a0 a1 a2 a3 : Value} (h : Blk w k #[a0, a1, a2, a3] T) (v0 v1 v2 v3 : Value) :
    ∃ W, ((((w.setCell ⟨k, 0, none⟩ v0).setCell ⟨k, 1, none⟩ v1).setCell ⟨k, 2, none⟩ v2).setCell ⟨k, 3, none⟩ v3) = W ∧ Upd [k] w W ∧ Blk W k #[v0, v1, v2, v3] T := by
  have h0 : Blk _ k #[v0, a1, a2, a3] T := h.set 0 v0
  have h1 : Blk _ k #[v0, v1, a2, a3] T := h0.set 1 v1
  have h2 : Blk _ k #[v0, v1, v2, a3] T := h1.set 2 v2
  have h3 : Blk _ k #[v0, v1, v2, v3] T := h2.set 3 v3
  have hx := Upd.refl [k] w
  exact ⟨_, rfl, (by repeat (first | with_reducible exact hx | with_reducible exact Upd.refl _ _ | with_reducible refine Upd.alloc ?_ _ | with_reducible refine Upd.drew ?_ | with_reducible refine Upd.setCell ?_ (by first | (simp; done) | (simp; omega)) _)), h3⟩
theorem results_do (tmps : Array Value) (W : World) (kx : Nat) (a0 a1 a2 a3 : Value) (ht : tmps[6]? = some (.pointer (some ⟨kx, 0, none⟩))) (h : Blk W kx #[a0, a1, a2, a3] 75) :
    (results Try.f39 tmps).run Try.prog W = .ok (.tuple #[.agg #[a0, a1, a2, a3], tmps.getD 7 undef]) W := by
  have hr : Try.f39.results = #[.cell 6 75, .tmp 7] := rfl
  have c0 := h.cell 0
  have c1 := h.cell 1
  have c2 := h.cell 2
  have c3 := h.cell 3
  simp at c0 c1 c2 c3
  have hl : (loadVar 75 ⟨kx, 0, none⟩).run Try.prog W = .ok (.agg #[a0, a1, a2, a3]) W := by
    go_simp
  simp [results, hr, ht, asAddr, hl]
/-- What a call answers: as it should, or with an error behind which all is safe. -/
structure DoneOk (C : Nat) (R : Int) (B kl kc bd : Nat) (d : DiskS) (kind : Int) (S : List UInt8) (l : List (List UInt8)) (g : Nat) (L : List (List UInt8)) (v : Nat) (xv : Value) (w' : World) (d' : DiskS) (g' n' : Nat) (L' : List (List UInt8)) (k' : Nat) (v' : Nat) (O' : List (List UInt8)) (had' : Bool) : Prop where
  run : RunAt B w' xv L' k' O' had'
  log : LogAt w' kl kc bd (lgOf g' n' L')
  cell : CellAt w' kc bd 2 v'
  live : Live C R d' g' n' L' k' v'
  gen : g' ≤ g + 1
  ver : v' ≤ v + 1
  what : (kind = 1 ∧ L' = L ∧ g' = g) ∨ (kind = 2 ∧ L' = cutL6 l ∧ g' = g + 1) ∨ (kind ≠ 1 ∧ kind ≠ 2 ∧ L' = L ++ [S.take 40] ∧ g' = g)

/-- What a call leaves of the list, of the other one, and of the count. -/
def Near (S : List UInt8) (l L O : List (List UInt8)) (L' O' : List (List UInt8)) (k' : Nat) : Prop :=
  (L' = L ∨ L' = L ++ [S.take 40] ∨ L' = cutL6 l) ∧ (O' = O ∨ O' = [] ∨ O' = cutL6 l) ∧ k' ≤ L.length + 6
theorem base_k {C : Nat} {R : Int} {d : DiskS} {g n : Nat} {L : List (List UInt8)} {J : List UInt8} {k v : Nat} (h : Base C R d g n L J k v) : k ≤ L.length := by
  obtain ⟨_, _, _, _, _, _, _, _, _, _, _, _, _, _, _, h, _⟩ := h; exact h

set_option maxHeartbeats 4000000 in
theorem wdo_any {C : Nat} {R : Int} {d : DiskS} {g n : Nat} {L : List (List UInt8)} {k v : Nat} (hc : Caps C R) (hCb : C ≤ 1000000) (hC9 : 20000 ≤ C) (h : Live C R d g n L k v) (hb : Bnd g L v) (hs : ∀ t ∈ L, t.length ≤ 40) (hL9 : L.length ≤ 100)
    (B kl kc bd : Nat) (O : List (List UInt8)) (had : Bool) (xv : Value) (kind : Int) (S : List UInt8) (hS : S.length ≤ 9223372036854775807) (l : List (List UInt8)) (lv : Value) (w : World) (hw : B ≤ w.heap.size)
    (hx : RunAt B w xv L k O had) (hD : DiskAt w bd d) (hLg : LogAt w kl kc bd (lgOf g n L)) (hCl : CellAt w kc bd 2 v) (hlv : TxsAt w lv l) (hls : ∀ t ∈ l, t.length ≤ 9223372036854775807) :
    Calls Try.prog 39 #[.pointer (some ⟨kl, 0, none⟩), xv, .agg #[.int .i64 kind, .string (txt S), lv]] w fun x w' =>
      ∃ d' xv' e L' k' O' had', x = .returned (.tuple #[xv', .int .i64 e]) ∧ d'.fail ≤ d.fail ∧ Upd [bd, kl, kc] w w' ∧ DiskAt w' bd d' ∧ Near S l L O L' O' k' ∧
        ((e = 0 ∧ ∃ g' n' v', DoneOk C R B kl kc bd d kind S l g L v xv' w' d' g' n' L' k' v' O' had') ∨
         (d.fail ≠ 0 ∧ e = 8 ∧ RunAt B w' xv' L' k' O' had' ∧ Safe C R d' (g + 1) (v + 1) (MayL L' k' O' had'))) := by
  obtain ⟨vl, vo, rfl, hvl, hvo⟩ := hx
  have HV := hd hvl
  have HO := hd hvo
  have HD := hd hD
  have HL := hd hLg
  have HC := hd hCl
  have HKL := hd (base_k h)
  obtain ⟨al, cl, rfl, hl1, hl2, hl3⟩ := own_open2 hvl
  obtain ⟨ao, co, rfl, -⟩ := own_open hvo
  obtain ⟨av, cv, rfl, -⟩ := id hlv
  have HLV := hd hlv
  have hbl := hD.lt
  have hkl := hLg.lt
  have hcl := hCl.lt
  have e0 : ∃ W kx, w.heap.size = kx ∧ ((w.alloc (.cells #[.slice al L.length cl, .int .i64 k, .slice ao O.length co, .bool had] 75)).alloc (.cells #[.int .i64 kind, .string (txt S), .slice av l.length cv] 80)).alloc (.cells #[.slice none 0 0, .int .i64 0, .slice none 0 0, .bool false] 75) = W ∧ Upd [] w W ∧
      Blk W kx #[.slice al L.length cl, .int .i64 k, .slice ao O.length co, .bool had] 75 ∧ Blk W (kx + 1) #[.int .i64 kind, .string (txt S), .slice av l.length cv] 80 ∧ Blk W (kx + 1 + 1) #[.slice none 0 0, .int .i64 0, .slice none 0 0, .bool false] 75 :=
    ⟨_, _, rfl, rfl, (((Upd.refl _ _).alloc _).alloc _).alloc _, ((Blk.new w _ _).alloc _).alloc _, (Blk.new' _ _ _ (by simp)).alloc _, Blk.new' _ _ _ (by simp)⟩
  clear hvl hvo hD hLg hCl hlv
  go_enter Try.func39, Try.ntmps39
  go_upto_region 1 with fail
  obtain ⟨W0, kx, hkx, hW0, hu0, hb0, hb1, hb2⟩ := e0
  rw [hW0, hkx]
  have hkw : w.heap.size ≤ kx := by omega
  clear hW0 hkx
  have HU0 := hd hu0
  have HV0 := hd (own_upd HV.out hu0 (by simp))
  have HO0 := hd (own_upd HO.out hu0 (by simp))
  have HD0 := hd (HD.out.upd hu0 (by simp))
  have HL0 := hd (HL.out.upd hu0 (by simp))
  have HC0 := hd (HC.out.upd hu0 (by simp))
  have HLV0 := hd (HLV.out.upd hu0)
  have HX0 := hd hb0
  have HA0 := hd hb1
  have HR0 := hd hb2
  have hs0 := hu0.size
  have hx0 := hb0.lt
  have hx1 := hb1.lt
  have hx2 := hb2.lt
  clear hu0 hb0 hb1 hb2 HV HO HD HL HC HLV
  have hn3 : ∀ i, i ∈ [bd, kl, kc] → i < kx := fun i hi => by simp only [List.mem_cons, List.not_mem_nil, or_false] at hi; omega
  have hfrV : ∀ (W : World) i, StrRow B W (.slice al L.length cl) L → DiskAt W bd d → LogAt W kl kc bd (lgOf g n L) → CellAt W kc bd 2 v → i ∈ [bd, kl, kc] → (Value.slice al L.length cl).ownBlock ≠ some i := fun W i h1 h2 h3 h4 hi e => by
    simp only [List.mem_cons, List.not_mem_nil, or_false] at hi
    rcases hi with rfl | rfl | rfl
    · exact own_ne_any h1 h2 (by decide) _ e rfl
    · exact own_ne_any h1 h3 (by decide) _ e rfl
    · exact own_ne_any h1 h4 (by decide) _ e rfl
  by_cases hk1 : kind = 1
  · subst hk1
    have HSY := hd (wsync_live hc hCb h hb kl kc bd W0 HD0.out HL0.out HC0.out)
    have hac := HA0.out.cell
    go_wp2_with fail
    refine HSY.out.mono ?_
    rintro x w1 ⟨d1, hf1, hu1, hd1, hr1⟩
    have HU1 := hd ((HU0.out.mono (by simp)).trans hu1)
    have HX1 := hd (HX0.out.upd hu1 (fun hm => by have := hn3 _ hm; omega))
    have HR1 := hd (HR0.out.upd hu1 (fun hm => by have := hn3 _ hm; omega))
    have HV1 := hd (own_upd HV0.out hu1 (fun i hi hm => hfrV W0 i HV0.out HD0.out HL0.out HC0.out hm hi))
    have HO1 := hd (own_upd HO0.out hu1 (fun i hi hm => by
      simp only [List.mem_cons, List.not_mem_nil, or_false] at hm
      rcases hm with rfl | rfl | rfl
      · exact own_ne_any HO0.out HD0.out (by decide) _ hi rfl
      · exact own_ne_any HO0.out HL0.out (by decide) _ hi rfl
      · exact own_ne_any HO0.out HC0.out (by decide) _ hi rfl))
    have HD1 := hd hd1
    have hs1 := hu1.size
    clear hac hu1 hd1 HV0 HO0 HD0 HL0 HC0 HX0 HR0 HLV0 HA0
    have hxc := HX1.out.cell
    have hxz := HX1.out.frozen
    have hrc := HR1.out.cell
    have hrz := HR1.out.frozen
    rcases hr1 with ⟨rfl, v', hv0, hv1, hl1', hc1', hlv1⟩ | ⟨hz, rfl, hsf⟩
    · have e5 : ∃ W5, w1.setCell ⟨kx, 1, none⟩ (.int .i64 L.length) = W5 ∧ Upd [kx] w1 W5 ∧ Blk W5 kx #[.slice al L.length cl, .int .i64 L.length, .slice ao O.length co, .bool had] 75 := ⟨_, rfl, (Upd.refl _ _).setCell (by simp) _, HX1.out.set 1 _⟩
      go_upto_region 6 with fail
      obtain ⟨W5, hW5, hu5, hb5⟩ := e5
      rw [hW5]
      have HR5 := HR1.out.upd hu5 (by simp; omega)
      obtain ⟨W6, e6, hu6, hb6⟩ := set4 HR5 (.slice al L.length cl) (.int .i64 L.length) (.slice ao O.length co) (.bool had)
      clear hxc hxz hrc hrz
      have hxc := hb5.cell
      have hrc := HR5.cell
      have hrz := HR5.frozen
      have hrc6 := hb6.cell
      go_wp2_with fail
      refine bodyPost_ret (results_do _ _ _ _ _ _ _ rfl hb6) rfl ?_
      have hu56 : Upd [kx, kx + 1 + 1] w1 W6 := (hu5.mono (by simp)).trans (hu6.mono (by simp))
      have hfr : ∀ i, i < kx → i ∉ [kx, kx + 1 + 1] := fun i hi hm => by simp only [List.mem_cons, List.not_mem_nil, or_false] at hm; omega
      have hrow : ∀ vv X, StrRow B w1 vv X → StrRow B W6 vv X := fun vv X hv => own_upd hv hu56 (fun i hi hm => by
        simp only [List.mem_cons, List.not_mem_nil, or_false] at hm
        rcases hm with rfl | rfl
        · exact own_ne_any hv HX1.out (by decide) _ hi rfl
        · exact own_ne_any hv HR1.out (by decide) _ hi rfl)
      exact ⟨d1, _, 0, L, L.length, O, had, rfl, hf1, HU1.out.trans' hu56 (by intro i hi; simp only [List.mem_cons, List.not_mem_nil, or_false] at hi; omega), HD1.out.upd hu56 (hfr _ (by omega)), ⟨.inl rfl, .inl rfl, by omega⟩, .inl ⟨rfl, g, _, v', ⟨⟨_, _, rfl, hrow _ _ HV1.out, hrow _ _ HO1.out⟩, hl1'.upd hu56 (hfr _ (by omega)), hc1'.upd hu56 (hfr _ (by omega)), hlv1, by omega, hv1, .inl ⟨rfl, rfl, rfl⟩⟩⟩⟩
    · obtain ⟨W6, e6, hu6, hb6⟩ := set4 HR1.out (.slice al L.length cl) (.int .i64 k) (.slice ao O.length co) (.bool had)
      have hrc6 := hb6.cell
      go_wp2_with fail
      refine bodyPost_ret (results_do _ _ _ _ _ _ _ rfl hb6) rfl ?_
      have hfr : ∀ i, i < kx → i ∉ [kx + 1 + 1] := fun i hi hm => by simp only [List.mem_cons, List.not_mem_nil, or_false] at hm; omega
      have hrow : ∀ vv X, StrRow B w1 vv X → StrRow B W6 vv X := fun vv X hv => own_upd hv hu6 (fun i hi hm => by
        simp only [List.mem_cons, List.not_mem_nil, or_false] at hm
        subst hm
        exact own_ne_any hv HR1.out (by decide) _ hi rfl)
      exact ⟨d1, _, 8, L, k, O, had, rfl, hf1, HU1.out.trans' hu6 (by intro i hi; simp only [List.mem_cons, List.not_mem_nil, or_false] at hi; omega), HD1.out.upd hu6 (hfr _ (by omega)), ⟨.inl rfl, .inl rfl, by have := HKL.out; omega⟩, .inr ⟨hz, rfl, ⟨_, _, rfl, hrow _ _ HV1.out, hrow _ _ HO1.out⟩, hsf.mono (fun X hX => by
        obtain ⟨j, h1, h2, rfl⟩ := hX
        have hjl : (L.take j).length = j := by rw [List.length_take]; omega
        exact .inr ⟨by omega, by omega, by rw [hjl]⟩) (by omega) (Nat.le_refl _)⟩⟩
  · by_cases hk2 : kind = 2
    · subst hk2
      have HCU := hd (wcut_any l _ W0 HLV0.out hls)
      obtain ⟨hcn, hcs⟩ := cutL6_small l
      have hce := small_enc (g + 1) (cutL6 l) hcs
      have HRW := hd (fun vv Bs W (h1 : DiskAt W bd d) (h2 : LogAt W kl kc bd (lgOf g n L)) (h3 : CellAt W kc bd 2 v) (h4 : StrRow Bs W vv (cutL6 l)) => wrewrite_live hc hCb h hb (cutL6 l) (fun t ht => by have := hcs t ht; omega) (by omega) (by omega) vv Bs kl kc bd W h1 h2 h3 h4)
      have hac := HA0.out.cell
      generalize hKK : cutL6 l = K at *
      go_wp2_with fail
      refine HCU.out.mono ?_
      rintro x w1 ⟨vk, rfl, hu1, hvk⟩
      have hs1 := hu1.size
      obtain ⟨ak, ck, rfl, -⟩ := own_open hvk
      have HU1 := hd (HU0.out.trans hu1)
      have HK1 := hd (own_mono hvk (show B ≤ W0.heap.size by omega))
      have HV1 := hd (own_upd HV0.out hu1 (by simp))
      have HO1 := hd (own_upd HO0.out hu1 (by simp))
      have HD1 := hd (HD0.out.upd hu1 (by simp))
      have HL1 := hd (HL0.out.upd hu1 (by simp))
      have HC1 := hd (HC0.out.upd hu1 (by simp))
      have HX1 := hd (HX0.out.upd hu1 (by simp))
      have HR1 := hd (HR0.out.upd hu1 (by simp))
      clear hac hu1 hvk HU0 HV0 HO0 HD0 HL0 HC0 HX0 HR0 HLV0 HA0 HCU
      go_wp2_with fail
      refine (HRW.out _ B w1 HD1.out HL1.out HC1.out HK1.out).mono ?_
      rintro x w2 ⟨d1, hf1, hu2, hd1, hr1⟩
      have HU2 := hd ((HU1.out.mono (by simp)).trans hu2)
      have HX2 := hd (HX1.out.upd hu2 (fun hm => by have := hn3 _ hm; omega))
      have HR2 := hd (HR1.out.upd hu2 (fun hm => by have := hn3 _ hm; omega))
      have hrow3 : ∀ vv X, StrRow B w1 vv X → StrRow B w2 vv X := fun vv X hv => own_upd hv hu2 (fun i hi hm => by
        simp only [List.mem_cons, List.not_mem_nil, or_false] at hm
        rcases hm with rfl | rfl | rfl
        · exact own_ne_any hv HD1.out (by decide) _ hi rfl
        · exact own_ne_any hv HL1.out (by decide) _ hi rfl
        · exact own_ne_any hv HC1.out (by decide) _ hi rfl)
      have HV2 := hd (hrow3 _ _ HV1.out)
      have HO2 := hd (hrow3 _ _ HO1.out)
      have HK2 := hd (hrow3 _ _ HK1.out)
      have HD2 := hd hd1
      have hs2 := hu2.size
      clear hu2 hd1 hrow3 HU1 HV1 HO1 HK1 HD1 HL1 HC1 HX1 HR1 HRW
      have hxc := HX2.out.cell
      have hxz := HX2.out.frozen
      have hrc := HR2.out.cell
      have hrz := HR2.out.frozen
      rcases hr1 with ⟨rfl, hl1', hc1', hlv1⟩ | ⟨hz, rfl, hsf⟩
      · obtain ⟨W6, e6, hu6, hb6⟩ := set4 HR2.out (.slice ak K.length ck) (.int .i64 K.length) (.slice none 0 0) (.bool false)
        have hrc6 := hb6.cell
        go_wp2_with fail
        refine bodyPost_ret (results_do _ _ _ _ _ _ _ rfl hb6) rfl ?_
        have hfr : ∀ i, i < kx → i ∉ [kx + 1 + 1] := fun i hi hm => by simp only [List.mem_cons, List.not_mem_nil, or_false] at hm; omega
        have hrow : ∀ vv X, StrRow B w2 vv X → StrRow B W6 vv X := fun vv X hv => own_upd hv hu6 (fun i hi hm => by
          simp only [List.mem_cons, List.not_mem_nil, or_false] at hm
          subst hm
          exact own_ne_any hv HR2.out (by decide) _ hi rfl)
        exact ⟨d1, _, 0, K, K.length, [], false, rfl, hf1, HU2.out.trans' hu6 (by intro i hi; simp only [List.mem_cons, List.not_mem_nil, or_false] at hi; omega), HD2.out.upd hu6 (hfr _ (by omega)), ⟨.inr (.inr hKK.symm), .inr (.inl rfl), by omega⟩, .inl ⟨rfl, g + 1, _, v + 1, ⟨⟨_, _, rfl, hrow _ _ HK2.out, World.ownsRow_nil _ _ _ _⟩, hl1'.upd hu6 (hfr _ (by omega)), hc1'.upd hu6 (hfr _ (by omega)), hlv1, Nat.le_refl _, Nat.le_refl _, .inr (.inl ⟨rfl, hKK.symm, rfl⟩)⟩⟩⟩
      · have e5 : ∃ W5, (w2.setCell ⟨kx, 2, none⟩ (.slice ak K.length ck)).setCell ⟨kx, 3, none⟩ (.bool true) = W5 ∧ Upd [kx] w2 W5 ∧ Blk W5 kx #[.slice al L.length cl, .int .i64 k, .slice ak K.length ck, .bool true] 75 := ⟨_, rfl, ((Upd.refl _ _).setCell (by simp) _).setCell (by simp) _, (HX2.out.set 2 _).set 3 _⟩
        go_upto_region 13 with fail
        obtain ⟨W5, hW5, hu5, hb5⟩ := e5
        rw [hW5]
        have HR5 := HR2.out.upd hu5 (by simp; omega)
        obtain ⟨W6, e6, hu6, hb6⟩ := set4 HR5 (.slice al L.length cl) (.int .i64 k) (.slice ak K.length ck) (.bool true)
        clear hxc hxz hrc hrz
        have hxc := hb5.cell
        have hrc := HR5.cell
        have hrz := HR5.frozen
        have hrc6 := hb6.cell
        go_wp2_with fail
        refine bodyPost_ret (results_do _ _ _ _ _ _ _ rfl hb6) rfl ?_
        have hu56 : Upd [kx, kx + 1 + 1] w2 W6 := (hu5.mono (by simp)).trans (hu6.mono (by simp))
        have hfr : ∀ i, i < kx → i ∉ [kx, kx + 1 + 1] := fun i hi hm => by simp only [List.mem_cons, List.not_mem_nil, or_false] at hm; omega
        have hrow : ∀ vv X, StrRow B w2 vv X → StrRow B W6 vv X := fun vv X hv => own_upd hv hu56 (fun i hi hm => by
          simp only [List.mem_cons, List.not_mem_nil, or_false] at hm
          rcases hm with rfl | rfl
          · exact own_ne_any hv HX2.out (by decide) _ hi rfl
          · exact own_ne_any hv HR2.out (by decide) _ hi rfl)
        exact ⟨d1, _, 8, L, k, K, true, rfl, hf1, HU2.out.trans' hu56 (by intro i hi; simp only [List.mem_cons, List.not_mem_nil, or_false] at hi; omega), HD2.out.upd hu56 (hfr _ (by omega)), ⟨.inl rfl, .inr (.inr hKK.symm), by have := HKL.out; omega⟩, .inr ⟨hz, rfl, ⟨_, _, rfl, hrow _ _ HV2.out, hrow _ _ HK2.out⟩, hsf.mono (fun X hX => by
          rcases hX with hX | ⟨j, h1, h2, rfl⟩
          · exact .inl ⟨rfl, hX⟩
          · have hjl : (L.take j).length = j := by rw [List.length_take]; omega
            exact .inr ⟨by omega, by omega, by rw [hjl]⟩) (Nat.le_refl _) (Nat.le_refl _)⟩⟩
    · have hkk1 : (kind == 1) = false := by simpa using hk1
      have hkk2 : (kind == 2) = false := by simpa using hk2
      have HCU := hd (fun W => cut_any S 40 W hS (by decide))
      have hsl : (S.take 40).length ≤ 40 := by rw [List.length_take]; omega
      have hse : (encL g (L ++ [S.take 40])).length ≤ C := by
        have := small_enc g (L ++ [S.take 40]) (fun t ht => by
          rcases List.mem_append.1 ht with h1 | h1
          · exact hs t h1
          · simp only [List.mem_cons, List.not_mem_nil, or_false] at h1
            subst h1; exact hsl)
        rw [List.length_append, List.length_cons, List.length_nil] at this
        omega
      have HAP := hd (wappend_live hc hCb h hb (S.take 40) (by omega) hse kl kc bd W0 HD0.out HL0.out HC0.out)
      have HWH := hd (And.intro hk1 hk2)
      have hac := HA0.out.cell
      clear hk1 hk2
      generalize hST : S.take 40 = T at *
      go_wp2_with fail
      refine (HCU.out W0).mono ?_
      rintro x w1 ⟨rfl, rfl⟩
      go_wp2_with fail
      refine HAP.out.mono ?_
      rintro x w2 ⟨d1, hf1, hu2, hd2, hc2, hr2⟩
      have hu2 : Upd [bd, kl, kc] W0 w2 := hu2.mono (by simp)
      have HU2 := hd ((HU0.out.mono (by simp)).trans hu2)
      have HX2 := hd (HX0.out.upd hu2 (fun hm => by have := hn3 _ hm; omega))
      have HR2 := hd (HR0.out.upd hu2 (fun hm => by have := hn3 _ hm; omega))
      have HV2 := hd (own_upd HV0.out hu2 (fun i hi hm => hfrV W0 i HV0.out HD0.out HL0.out HC0.out hm hi))
      have HO2 := hd (own_upd HO0.out hu2 (fun i hi hm => by
        simp only [List.mem_cons, List.not_mem_nil, or_false] at hm
        rcases hm with rfl | rfl | rfl
        · exact own_ne_any HO0.out HD0.out (by decide) _ hi rfl
        · exact own_ne_any HO0.out HL0.out (by decide) _ hi rfl
        · exact own_ne_any HO0.out HC0.out (by decide) _ hi rfl))
      have HD2 := hd hd2
      have HC2 := hd hc2
      have hs2 := hu2.size
      obtain ⟨ev, rfl, hev⟩ : ∃ ev : Int, x = .returned (.int .i64 ev) ∧ (ev = 0 ∨ ev = 8) := by
        rcases hr2 with ⟨h1, _⟩ | ⟨_, h1, _⟩
        · exact ⟨0, h1, .inl rfl⟩
        · exact ⟨8, h1, .inr rfl⟩
      have HQ2 := hd hr2
      clear hac hu2 hd2 hc2 hr2 HU0 HV0 HO0 HD0 HL0 HC0 HX0 HR0 HLV0 HA0 HCU HAP
      have hxc := HX2.out.cell
      have hxz := HX2.out.frozen
      go_upto_region 16 with fail
      go_cut [58] (fun s58 wx => s58 = .bool true ∧ wx = w2)
      case first =>
        rcases hev with rfl | rfl
        · go_wp2_with fail
          go_meet
          case rel => exact ⟨rfl, rfl⟩
        · go_wp2_with fail
          go_meet
          case rel => exact ⟨rfl, rfl⟩
      case rest =>
        obtain ⟨rfl, rfl⟩ := hcut
        go_upto_if 58 with fail
        go_cut [] (fun wx => ∃ vn, StrRow B wx vn (L ++ [T]) ∧ Upd [kx] wc wx ∧ Blk wx kx #[vn, .int .i64 k, .slice ao O.length co, .bool had] 75)
        case first =>
          obtain ⟨i0, hinf, hz0, hz1, hz2⟩ := info_parts Try.infoStr
          have hxb := (HX2.out.alloc (.cells #[] 9)).cell
          have hwB : B ≤ wc.heap.size := by omega
          rcases hl3 with ⟨rfl, rfl⟩ | ⟨gl, rfl⟩
          · have hL0 : L = [] := List.eq_nil_of_length_eq_zero (by omega)
            subst hL0
            have HX4 := hd (HX2.out.alloc (.cells #[] 9))
            have HO4 := hd (show StrRow wc.heap.size (wc.alloc (.cells #[] 9)) (.slice (some ⟨wc.heap.size, 0, none⟩) 0 0) [] from ⟨rfl, .inr ⟨wc.heap.size, 0, #[], rfl, Nat.le_refl _, Blk.new _ _ _, Nat.le_refl _, by unfold maxLen; omega, rfl, rfl⟩⟩)
            have hs4 : (wc.alloc (.cells #[] 9)).heap.size = wc.heap.size + 1 := by simp
            have HU4 := hd (show Upd [] wc (wc.alloc (.cells #[] 9)) from (Upd.refl _ _).alloc _)
            have hlen0 : ([] : List (List UInt8)).length = 0 := rfl
            rw [hlen0] at hxb
            go_wp2_with (at_builtin; first | (refine nilAppend rfl (.tmp 59) (.tmp 61) rfl wc.heap.size rfl rfl ?_) | (refine strAppend rfl (.tmp 62) (.tmp 64) rfl wc.heap.size _ [] T rfl (own_upd (L := []) HO4.out ((Upd.refl _ _).alloc _) (by simp)) (wc.heap.size + 1) rfl (Blk.new' _ _ _ (by simp)) ?d1 ?d2 ?_))
            case d1 => simp
            case d2 => simp; omega
            intro v5 w5 hown5 hgr5 hblk5
            have hnk : kx ∉ (Value.slice (some ⟨wc.heap.size, 0, none⟩) 0 0).ownBlock.toList := fun hm => by simp [Value.ownBlock] at hm; omega
            have hb5 := Blk.upd (HX4.out.alloc (.cells #[.string (txt T)] 9)) hgr5 hnk
            have HU5 := hd ((HU4.out.alloc (.cells #[.string (txt T)] 9)).trans' hgr5 (fun i hi => .inr (by simp [Value.ownBlock] at hi; omega)))
            have HO5 := hd (own_mono hown5 hwB)
            have HX5 := hd hb5
            have hxc := hb5.cell
            have hxz := hb5.frozen
            obtain ⟨a5, c5, rfl, -⟩ := own_open hown5
            clear hown5 hgr5 hblk5 hb5 hxb
            go_wp2_with fail
            go_meet
            case rel => exact ⟨_, own_upd (L := [kx]) HO5.out ((Upd.refl _ _).setCell (by simp) _) (fun i hi hm => own_ne_any HO5.out HX5.out (by decide) i hi (by simpa using hm)), (HU5.out.mono (by simp)).setCell (by simp) _, HX5.out.set 0 _⟩
          · have hsl : (strVals L).length = L.length * 1 := by simp [strVals]
            have HSL := hd (show ∀ j u, (strVals L)[j]? = some u → (wc.alloc (.cells #[] 9)).cell? ((⟨gl, 0, none⟩ : Addr).add j) = some u from fun j u hj => by
              exact (own_upd (L := []) HV2.out ((Upd.refl _ _).alloc _) (by simp)).cells (g := gl) rfl j u hj)
            have h63 : 0 + L.length ≤ maxLen := by unfold maxLen; omega
            have HONE := hd (show ∀ u ∈ strVals L, u.oneCell' = true from fun u hu => by unfold strVals at hu; obtain ⟨t, _, rfl⟩ := List.mem_map.1 hu; rfl)
            go_wp2_with (at_builtin; refine wpList_append_own_at _ rfl (.tmp 59) (.tmp 61) 60 rfl wc.heap.size 9 i0 _ 1 16 Try.underlying60 hinf hz0 hz1 hz2 rfl (by decide) _ 0 [] rfl ?c1 ⟨gl, 0, none⟩ L.length cl (strVals L) rfl hsl HSL.out HONE.out h63 ?c5 ?c6 ?_)
            case c1 => exact ⟨rfl, .inr ⟨wc.heap.size, 0, #[], rfl, by omega, Blk.new _ _ _, by omega, by unfold maxLen; omega, rfl, rfl⟩⟩
            case c5 => omega
            case c6 => simp
            intro v4 w4 hown4 hgr4 _ hblk4
            have hu4 : Upd [] wc w4 := ((Upd.refl [] wc).alloc _).trans' (Upd.of_grown hgr4) (by simp [Value.ownBlock])
            have HU4 := hd hu4
            have HX4 := hd (HX2.out.upd hu4 (by simp))
            have HO4 := hd (show StrRow wc.heap.size w4 v4 L from hown4)
            obtain ⟨a4, c4, rfl, -⟩ := own_open hown4
            have hs4 := hu4.size
            clear hown4 hgr4 hblk4 hu4 hxb hxc hxz
            go_wp2_with (at_builtin; refine strAppend rfl (.tmp 62) (.tmp 64) rfl wc.heap.size _ L T rfl (own_upd (L := []) HO4.out ((Upd.refl _ _).alloc _) (by simp)) w4.heap.size rfl (Blk.new _ _ _) ?d1 ?d2 ?_)
            case d1 => omega
            case d2 => simp; omega
            intro v5 w5 hown5 hgr5 hblk5
            have hnk : kx ∉ (Value.slice a4 L.length c4).ownBlock.toList := fun hm => by have := (own_ge HO4.out kx (by simpa using hm)).1; omega
            have hb5 := Blk.upd (HX4.out.alloc (.cells #[.string (txt T)] 9)) hgr5 hnk
            have HU5 := hd ((HU4.out.alloc (.cells #[.string (txt T)] 9)).trans' hgr5 (fun i hi => .inr (own_ge HO4.out i (by simpa using hi)).1))
            have HO5 := hd (own_mono hown5 hwB)
            have HX5 := hd hb5
            have hxc := hb5.cell
            have hxz := hb5.frozen
            obtain ⟨a5, c5, rfl, -⟩ := own_open hown5
            clear hown5 hgr5 hblk5 hb5
            go_wp2_with fail
            go_meet
            case rel => exact ⟨_, own_upd (L := [kx]) HO5.out ((Upd.refl _ _).setCell (by simp) _) (fun i hi hm => own_ne_any HO5.out HX5.out (by decide) i hi (by simpa using hm)), (HU5.out.mono (by simp)).setCell (by simp) _, by rw [show (L ++ [T]).length = L.length + 1 by simp]; exact HX5.out.set 0 _⟩
        case rest =>
          obtain ⟨vn, hvn, hu3, hb3⟩ := hcut
          obtain ⟨an, cn, rfl, -⟩ := own_open hvn
          have HR3 := HR2.out.upd hu3 (by simp; omega)
          obtain ⟨W6, e6, hu6, hb6⟩ := set4 HR3 (.slice an (L ++ [T]).length cn) (.int .i64 k) (.slice ao O.length co) (.bool had)
          clear hxc hxz
          have hxc := hb3.cell
          have hrc := HR3.cell
          have hrz := HR3.frozen
          have hrc6 := hb6.cell
          generalize hLT : (L ++ [T]).length = LT at *
          go_wp2_with fail
          refine bodyPost_ret (results_do _ _ _ _ _ _ _ rfl hb6) rfl ?_
          have hu56 : Upd [kx, kx + 1 + 1] _ W6 := (hu3.mono (by simp)).trans (hu6.mono (by simp))
          have hfr : ∀ i, i < kx → i ∉ [kx, kx + 1 + 1] := fun i hi hm => by simp only [List.mem_cons, List.not_mem_nil, or_false] at hm; omega
          have hro : StrRow B W6 (.slice ao O.length co) O := own_upd HO2.out hu56 (fun i hi hm => by
            simp only [List.mem_cons, List.not_mem_nil, or_false] at hm
            rcases hm with rfl | rfl
            · exact own_ne_any HO2.out HX2.out (by decide) _ hi rfl
            · exact own_ne_any HO2.out HR2.out (by decide) _ hi rfl)
          have hrn : StrRow B W6 (.slice an LT cn) (L ++ [T]) := own_upd hvn hu6 (fun i hi hm => by
            simp only [List.mem_cons, List.not_mem_nil, or_false] at hm
            subst hm
            exact own_ne_any hvn HR3 (by decide) _ hi rfl)
          have hUf : Upd [bd, kl, kc] w W6 := HU2.out.trans' hu56 (by intro i hi; simp only [List.mem_cons, List.not_mem_nil, or_false] at hi; omega)
          have hDf := HD2.out.upd hu56 (hfr _ (by omega))
          have hCf := HC2.out.upd hu56 (hfr _ (by omega))
          rcases HQ2.out with ⟨he, hlg, hlv⟩ | ⟨hz, he, hlg, hlv⟩
          · obtain rfl : ev = 0 := by simpa using he
            exact ⟨d1, _, 0, L ++ [T], k, O, had, rfl, hf1, hUf, hDf, ⟨.inr (.inl (by rw [hST])), .inl rfl, by have := HKL.out; omega⟩, .inl ⟨rfl, g, n, v, ⟨⟨_, _, rfl, hrn, hro⟩, hlg.upd hu56 (hfr _ (by omega)), hCf, hlv, by omega, by omega, .inr (.inr ⟨HWH.out.1, HWH.out.2, by rw [hST], rfl⟩)⟩⟩⟩
          · obtain rfl : ev = 8 := by simpa using he
            refine ⟨d1, _, 8, L ++ [T], k, O, had, rfl, hf1, hUf, hDf, ⟨.inr (.inl (by rw [hST])), .inl rfl, by have := HKL.out; omega⟩, .inr ⟨hz, rfl, ⟨_, _, rfl, hrn, hro⟩, (base_safe hc hb.2.2.2 hlv).mono (fun X hX => ?_) (by omega) (by omega)⟩⟩
            obtain ⟨j, h1, h2, rfl⟩ := hX
            have hjl : (L.take j).length = j := by rw [List.length_take]; omega
            exact .inr ⟨by omega, by rw [hjl, List.length_append]; omega, by rw [hjl, List.take_append_of_le_length h2]⟩
end Go.Proofs.Ytjaoiaknglnomaa

/-
  How arguments that came in read in memory: slices of structs of one-cell fields, slices of whole numbers. No condition beyond those that each theorem states.
-/
set_option linter.unusedVariables false
set_option linter.unusedSimpArgs false
namespace Go.Proofs.Ytjaoiaknglnomaa
open Go.ChangeShapes Go.WideShapes Go.Deep Go.RowKit
section
variable {H : Type} {enc : TypeId × Value → H} {P : Program} {w : World} {base : Nat} {spare : Nat → Bool} {held : Bool}

/-- A slice of structs of one-cell fields: every field of every element. -/
theorem slice_fields {t e : TypeId} {fs : Array Field} {fuel : Nat} {cs : List Value} {x : DataW H × List MemPlace} (ht : P.underlying t = some (.slice e)) (he : P.underlying e = some (.struct fs))
    (hone : oneCellFields P fs = true) (hC : P.cellsOf e = fs.size) (h : DataW.trod enc P w base spare held fuel t cs = some x) :
    ∃ (a : Option Addr) (len cap : Nat), cs = [.slice a len cap] ∧ len ≤ cap ∧ cap ≤ maxLen ∧ (0 < len → ∃ b, a = some b ∧
      ∀ i, i < len → ∀ (j : Nat) (f : Field), fs[j]? = some f → ∃ (v : Value) (y : DataW H × List MemPlace) (n : Nat), w.cell? (b.add (i * fs.size + j)) = some v ∧ DataW.trod enc P w base spare held n f.type [v] = some y) := by
  rcases open_slice ht h with ⟨hcs, _⟩ | ⟨a, len, cap, m, n, D, Pl, hcs, hb, hl, hm, hmm, hx, hi⟩
  · exact ⟨none, 0, 0, hcs, by omega, by unfold maxLen; omega, by omega⟩
  · refine ⟨some a, len, cap, hcs, hl, hm, fun _ => ⟨a, rfl, fun i him j f hj => ?_⟩⟩
    obtain ⟨cs', hc, ht'⟩ := hi i (by rw [hmm]; split <;> omega)
    rw [hC] at hc
    obtain ⟨ys, n', hn', hy, hlen, hyl, hf⟩ := DataW.trod_struct he ht'
    obtain ⟨_, hcl, hat⟩ := World.cells?_some hc
    obtain ⟨ho, hk⟩ := hone_of hone j f hj
    have hjl : j < fs.size := (Array.getElem?_eq_some_iff.1 hj).1
    have hcell := hat j hjl
    have hv : cs'[j]? = some (cs'[j]'(by omega)) := List.getElem?_eq_getElem (by omega)
    have h1 := hf j f hj
    rw [ho, hk] at h1
    have hone' : (cs'.drop j).take 1 = [cs'[j]'(by omega)] := by
      rw [List.drop_eq_getElem_cons (by omega)]
      rfl
    rw [hone'] at h1
    have hys : ys[j]? = some (ys[j]'(by omega)) := List.getElem?_eq_getElem (by omega)
    refine ⟨cs'[j]'(by omega), ys[j]'(by omega), n', ?_, h1.trans hys⟩
    rw [← Go.Deep.add_add, hcell, hv]

theorem addr_add {b : Addr} {n : Nat} {v : Value} (h : w.cell? (b.add n) = some v) : b.add n = ⟨b.block, b.off + n, none⟩ := by
  have hs := World.cell?_spot h
  unfold Addr.add at *
  split
  · rename_i h0
    rw [if_pos h0] at hs
    subst h0
    obtain ⟨bb, bo, bs⟩ := b
    simp only at hs
    subst hs
    rfl
  · rfl

/-- A slice of ints reads as one, wherever its cells lie. -/
theorem ints_at {t e : TypeId} {fuel : Nat} {v : Value} {x : DataW H × List MemPlace} (ht : P.underlying t = some (.slice e)) (he : P.underlying e = some (.int .i64)) (hC : P.cellsOf e = 1)
    (h : DataW.trod enc P w base spare held fuel t [v] = some x) : ∃ cs, ∀ b, w.heap.size ≤ b → IntsAt b w v cs := by
  rcases open_ints ht he hC h with ⟨hcs, _⟩ | ⟨a, len, cap, zs, hcs, _, hl, hm, hz, _, hcell, hwz⟩
  · simp at hcs
    subst hcs
    exact ⟨[], fun b _ => ⟨none, 0, rfl, by simp, by omega, by simp⟩⟩
  · simp at hcs
    subst hcs
    have hzl : len ≤ zs.length := by
      have : (if spare a.block = true then cap else len) = zs.length := by first | exact hz.symm | exact hz | simpa using hz.symm
      rw [← this]; split <;> omega
    refine ⟨zs.take len, fun b hb => ⟨some a, cap, by simp [List.length_take, Nat.min_eq_left hzl], by simp [List.length_take]; omega, by simpa [maxLen] using hm, fun hne => ?_⟩⟩
    have h0 : 0 < len := by
      rcases Nat.eq_zero_or_pos len with e0 | e0
      · subst e0; simp at hne
      · exact e0
    have hc0 := hcell 0 (by omega)
    have e0 := addr_add hc0
    refine ⟨a.block, a.off, ?_, ?_, ?_, fun i hi => ?_⟩
    · have hs := World.cell?_spot hc0
      obtain ⟨bb, bo, bs⟩ := a
      simp [Addr.add] at hs
      subst hs
      rfl
    · have := World.block_lt_of_cell? w _ hc0
      rw [e0] at this
      simp only at this
      omega
    · have := World.block_lt_of_cell? w _ hc0
      rw [e0] at this
      exact this
    · simp only [List.length_take] at hi
      have hci := hcell i (by omega)
      rw [addr_add hci] at hci
      rw [hci]
      simp [List.getD, List.getElem?_take, show i < len by omega]
end
end Go.Proofs.Ytjaoiaknglnomaa
