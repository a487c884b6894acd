/-
  wal.Open, walked, where the mark is read as (g, n), and the generation's file bears records and behind them what is no frame. Conditions: sizes that there are.
-/
import Derived.Test.YtjaoiaknglnomaaWal6
set_option linter.unusedVariables false
set_option linter.unusedSimpArgs false
set_option maxRecDepth 100000
namespace Go.Proofs.Ytjaoiaknglnomaa
open Go.RowKit

theorem open_err (d : DiskS) (f : Int) : ((d.openIt f).1 = none → (d.openIt f).2.2.1 ≠ 0) ∧ (∀ v, (d.openIt f).1 = some v → (d.openIt f).2.2.1 = 0) := by
  unfold DiskS.openIt
  simp only
  generalize (if (parseL (d.file f)).version < (parseL (d.file (f + 1))).version then parseL (d.file (f + 1)) else parseL (d.file f)) = c at *
  split
  · simp
  · split
    · simp
    · split
      · rename_i h
        exact ⟨fun _ => h, fun v hv => by cases hv⟩
      · simp
theorem mend_fine (d : DiskS) (f : Int) (a b c : HalfS) (h : d.fine) (hc : c.text.length ≤ 1000000) : (d.mendIt f a b c).2.fine := by
  have h1 : ∀ D : DiskS, D.fine → ∀ f', (D.layIt f' c.version c.text).2.fine := fun D hD f' => lay_fine D f' _ _ hD hc
  unfold DiskS.mendIt
  simp only
  by_cases e1 : a ≠ c
  · simp only [if_pos e1]
    split
    · exact h1 d h f
    · split
      · exact h1 _ (h1 d h f) _
      · exact h1 d h f
  · simp only [if_neg e1]
    split
    · exact h
    · split
      · exact h1 _ h _
      · exact h
theorem open_fine (d : DiskS) (f : Int) (h : d.fine) : (d.openIt f).2.2.2.fine ∧ (d.openIt f).2.1.length ≤ 524288 := by
  have ha := (parseL_fine (d.file f)).2
  have hb := (parseL_fine (d.file (f + 1))).2
  have hc : (if (parseL (d.file f)).version < (parseL (d.file (f + 1))).version then parseL (d.file (f + 1)) else parseL (d.file f)).text.length ≤ 524288 := by split <;> assumption
  unfold DiskS.openIt
  simp only
  generalize (if (parseL (d.file f)).version < (parseL (d.file (f + 1))).version then parseL (d.file (f + 1)) else parseL (d.file f)) = c at *
  split
  · exact ⟨h, by simp⟩
  · split
    · exact ⟨h, by simp⟩
    · split
      · exact ⟨mend_fine d f _ _ _ h (by omega), by simp⟩
      · exact ⟨mend_fine d f _ _ _ h (by omega), hc⟩

/-- What Open answers, and leaves. -/
def walOpen (o : Option Nat × List UInt8 × Int × DiskS) (g n : Nat) (L : List (List UInt8)) (J : List UInt8) : Int × DiskS × LogS × Nat :=
  match o.1 with
  | none => (o.2.2.1, o.2.2.2, ⟨0, 0, 0, false⟩, 0)
  | some ver => if J = [] then (0, o.2.2.2, ⟨g, (encL g L).length, L.length, decide (n < (encL g L).length)⟩, ver)
    else walRewrite o.2.2.2 ⟨g, (encL g L).length, L.length, decide (n < (encL g L).length)⟩ ver L
/-- .. as values. -/
def WOut (B bd : Nat) (L : List (List UInt8)) (q : Int × DiskS × LogS × Nat) (x : Ending) (w : World) : Prop :=
  (q.1 = 0 → ∃ kl kc v, x = .returned (.tuple #[.pointer (some ⟨kl, 0, none⟩), v, .int .i64 0]) ∧ B ≤ kl ∧ B ≤ kc ∧ LogAt w kl kc bd q.2.2.1 ∧ CellAt w kc bd 2 q.2.2.2 ∧ StrRow B w v L) ∧
  (q.1 ≠ 0 → x = .returned (.tuple #[.pointer none, .slice none 0 0, .int .i64 q.1]))

set_option maxHeartbeats 8000000 in
theorem wopen_any (d : DiskS) (g n : Nat) (L : List (List UInt8)) (J : List UInt8) (bd : Nat) (w : World) (hd' : DiskAt w bd d) (hf : d.fine) (hg : g + 1 < 18446744073709551616)
    (hs : ∀ v, (d.openIt 2).1 = some v → markL (d.openIt 2).2.1 = (g, (n : Int), true) ∧ (d.openIt 2).2.2.2.file ((g % 2 : Nat) : Int) = encL g L ++ J ∧ v < 1099511627776)
    (hl : ∀ t ∈ L, t.length ≤ 262144) (hj : (openL J).2.2 ≠ 0) (hn : L.length ≤ 100000) (hm : metB g L n L.length = true) (hB : (encL (g + 1) L).length ≤ 1099511627776) (hJ : (encL g L ++ J).length ≤ 1099511627776) :
    Calls Try.prog 35 #[.pointer (some ⟨bd, 0, none⟩)] w fun x w' => WOut w.heap.size bd L (walOpen (d.openIt 2) g n L J) x w' ∧ Upd [bd] w w' ∧ DiskAt w' bd (walOpen (d.openIt 2) g n L J).2.1 := by
  have hbl := hd'.lt
  have hg2 : g % 2 < 2 := Nat.mod_lt _ (by omega)
  have HTO := hd (topen_any d 2 bd w hd' hf (by decide) (by decide))
  obtain ⟨he0, he1⟩ := open_err d 2
  obtain ⟨hfo, hto⟩ := open_fine d 2 hf
  have HWO := hd (show walOpen (d.openIt 2) g n L J = match (d.openIt 2).1 with
  | none => ((d.openIt 2).2.2.1, (d.openIt 2).2.2.2, ⟨0, 0, 0, false⟩, 0)
  | some ver => if J = [] then (0, (d.openIt 2).2.2.2, ⟨g, (encL g L).length, L.length, decide (n < (encL g L).length)⟩, ver)
    else walRewrite (d.openIt 2).2.2.2 ⟨g, (encL g L).length, L.length, decide (n < (encL g L).length)⟩ ver L from rfl)
  clear hd' hf
  generalize walOpen (d.openIt 2) g n L J = OUT at *
  generalize d.openIt 2 = o at *
  obtain ⟨oc, tx, e, D⟩ := o
  simp only at *
  have HJ := hd (show (encL g L).length < (encL g L ++ J).length ↔ J ≠ [] by
    rw [List.length_append]
    rcases J with _ | ⟨x, J⟩
    · simp
    · simp)
  have hel : (encL g L).length ≤ 1099511627776 := by rw [List.length_append] at hJ; omega
  have HSC := hd (fun W => wscan_any g n L J W (by omega) hl hj hn hJ)
  rw [hm] at HSC
  go_enter Try.func35, Try.ntmps35
  go_wp2_with fail
  refine HTO.out.mono ?_
  rintro x w1 ⟨hout, hu1, hd1⟩
  have HU1 := hd hu1
  have HD1 := hd hd1
  clear hu1 hd1 HTO
  rcases oc with _ | ver
  · obtain rfl := hout
    have he := he0 rfl
    have he' : (e != 0) = true := by simpa using he
    have HO := hd HWO.out
    simp only at HO
    clear he0 he1 hs
    go_wp2_with fail
    go_ret3
    rw [HO.out]
    exact ⟨⟨fun h => absurd h he, fun _ => rfl⟩, HU1.out, HD1.out⟩
  · obtain ⟨kc, hkc, rfl, hc1⟩ := hout
    obtain rfl := he1 ver rfl
    obtain ⟨hmk, hfl, hvr⟩ := hs ver rfl
    have HO := hd HWO.out
    simp only at HO
    have HC1 := hd hc1
    have hcl := hc1.lt
    have HPM := hd (fun W => wparseMark_any tx W (by omega))
    rw [hmk] at HPM
    simp only at HPM
    have hrd : D.readIt ((g % 2 : Nat) : Int) = (txt (encL g L ++ J), 0) := by
      unfold DiskS.readIt
      rw [if_pos (by omega)]
      unfold DiskS.file DiskS.readIt at hfl
      rw [if_pos (by omega)] at hfl
      simp only at hfl
      rw [← hfl]
      simp [txt]
    have HRD := hd (fun W (h : DiskAt W bd D) => read_any D ((g % 2 : Nat) : Int) W bd h)
    rw [hrd] at HRD
    simp only at HRD
    have HWF := hd (fun W => wfile_any g W (by omega))
    have hne2 : kc ≠ bd := blk_ne hc1 HD1.out (by decide)
    have hJl : (txt (encL g L ++ J)).size ≤ 1099511627776 := by rw [txt_size]; exact hJ
    have htz : ((txt (encL g L ++ J)).size : Int) = (encL g L ++ J).length := by rw [txt_size]
    clear hc1 hmk hfl hrd he0 he1 hs HWO
    generalize encL g L ++ J = S at *
    generalize encL g L = E at *
    generalize g % 2 = m at *
    go_wp2_with fail
    refine (HPM.out _).mono ?_
    rintro x w2 ⟨rfl, hu2⟩
    have HU2 := hd (HU1.out.trans (hu2.mono (by simp)))
    have HD2 := hd (HD1.out.upd hu2 (by simp))
    have HC2 := hd (HC1.out.upd hu2 (by simp))
    clear hu2 HU1 HD1 HC1
    go_wp2_with fail
    refine (HWF.out _).mono ?_
    rintro x w3 ⟨rfl, rfl⟩
    go_wp2_with fail
    refine (HRD.out _ HD2.out).mono ?_
    rintro x w4 ⟨rfl, hu4⟩
    have HU4 := hd (HU2.out.trans (hu4.mono (by simp)))
    have HD4 := hd (HD2.out.upd hu4 (by simp))
    have HC4 := hd (HC2.out.upd hu4 (by simp))
    clear hu4 HU2 HD2 HC2
    go_wp2_with fail
    refine (HSC.out w4).mono ?_
    rintro x w5 ⟨v, rfl, hu5, hv5⟩
    have hs4 := HU4.out.size
    have HU5 := hd (HU4.out.trans (hu5.mono (by simp)))
    have HD5 := hd (HD4.out.upd hu5 (by simp))
    have HC5 := hd (HC4.out.upd hu5 (by simp))
    have HV5 := hd (own_mono hv5 hs4)
    clear hu5 HU4 HD4 HC4
    obtain ⟨a, cap, rfl, hnc, hcm, -⟩ := own_open hv5
    clear hv5 HPM HWF HRD HSC
    have hk5 : bd < w5.heap.size := HD5.out.lt
    have hc5 := HC5.out.lt
    have hw5 := HU5.out.size
    have e11 : ∃ W k, w5.heap.size = k ∧ w5.alloc (.cells #[.pointer (some ⟨bd, 0, none⟩), .pointer (some ⟨kc, 0, none⟩), .int .u64 g, .int .i64 E.length, .int .i64 L.length, .bool (decide (n < E.length))] 118) = W ∧ Upd [] w5 W ∧ LogAt W k kc bd ⟨g, E.length, L.length, decide (n < E.length)⟩ := ⟨_, _, rfl, rfl, (Upd.refl _ _).alloc _, Blk.new _ _ _⟩
    go_upto_region 12 with fail
    obtain ⟨W6, kl, hkl, hW6, hu6, hl6⟩ := e11
    rw [hW6, hkl]
    clear hW6
    have hklw : w.heap.size ≤ kl := by omega
    have HL6 := hd hl6
    have HU6 := hd (HU5.out.trans (hu6.mono (by simp)))
    have HD6 := hd (HD5.out.upd hu6 (by simp))
    have HC6 := hd (HC5.out.upd hu6 (by simp))
    have HV6 := hd (own_upd HV5.out hu6 (by simp))
    clear hkl hl6 hu6 HU5 HD5 HC5 HV5
    generalize decide (n < E.length) = X at *
    by_cases hJe : J = []
    · have hlt : ¬ ((E.length : Int) < (S.length : Int)) := by have := HJ.out; simp only [hJe, ne_eq, not_true_eq_false, iff_false] at this; omega
      have HZ := hd (HO.out.trans (if_pos hJe))
      clear hJe
      go_wp2_with fail
      go_ret3
      rw [HZ.out]
      exact ⟨⟨fun _ => ⟨kl, kc, _, rfl, hklw, hkc, HL6.out, HC6.out, HV6.out⟩, fun h => absurd rfl h⟩, HU6.out, HD6.out⟩
    · have hlt : ((E.length : Int) < (S.length : Int)) := by have := HJ.out.2 hJe; omega
      have HZ := hd (HO.out.trans (if_neg hJe))
      clear hJe
      have HRW := hd (wrewrite_any D ⟨g, E.length, L.length, X⟩ ver L _ w.heap.size kl kc bd W6 HD6.out HL6.out HC6.out HV6.out hfo hg hvr hl hn hB)
      generalize walRewrite D ⟨g, E.length, L.length, X⟩ ver L = Y at *
      obtain ⟨e6, D6, l6, v6⟩ := Y
      simp only at HRW
      go_wp2_with fail
      refine HRW.out.mono ?_
      rintro x w7 ⟨rfl, hu7, hd7, hl7, hc7⟩
      have hne5 : ∀ g', (Value.slice a L.length cap).ownBlock = some g' → g' ∉ [bd, kl, kc] := fun g' hg' hm' => by
        simp only [List.mem_cons, List.not_mem_nil, or_false] at hm'
        rcases hm' with rfl | rfl | rfl
        · exact own_ne_any HV6.out HD6.out (by decide) _ hg' rfl
        · exact own_ne_any HV6.out HL6.out (by decide) _ hg' rfl
        · exact own_ne_any HV6.out HC6.out (by decide) _ hg' rfl
      have HV7 := hd (own_upd HV6.out hu7 hne5)
      have HU7 := hd (HU6.out.trans' hu7 (by intro i hi; simp only [List.mem_cons, List.not_mem_nil, or_false] at hi ⊢; omega))
      have HD7 := hd hd7
      have HL7 := hd hl7
      have HC7 := hd hc7
      clear hu7 hd7 hl7 hc7 hne5
      by_cases he : e6 = 0
      · have he' : (e6 != 0) = false := by simp [he]
        have he0 := hd he
        clear he
        go_wp2_with fail
        go_ret3
        rw [HZ.out]
        exact ⟨⟨fun _ => ⟨kl, kc, _, rfl, hklw, hkc, HL7.out, HC7.out, HV7.out⟩, fun h => absurd he0.out h⟩, HU7.out, HD7.out⟩
      · have he' : (e6 != 0) = true := by simpa using he
        have he0 := hd he
        clear he
        go_wp2_with fail
        go_ret3
        rw [HZ.out]
        exact ⟨⟨fun h => absurd h he0.out, fun _ => rfl⟩, HU7.out, HD7.out⟩
end Go.Proofs.Ytjaoiaknglnomaa
