/-
  wal.Open, walked, where the mark is read as (g, n), and the generation's file bears records and behind them what is no frame. Conditions: sizes that there are.
-/
import Derived.Test.YtjaoiaknglnomaaWm16
import Derived.Test.YtjaoiaknglnomaaWm9
import Derived.Test.YtjaoiaknglnomaaWm10
import Derived.Test.YtjaoiaknglnomaaWm7
set_option linter.unusedVariables false
set_option linter.unusedSimpArgs false
set_option maxRecDepth 100000
namespace Go.Proofs.Ytjaoiaknglnomaa
open Go.RowKit

theorem open_err (d : DiskS) (f : Int) : ((d.openIt f).1 = none → (d.openIt f).2.2.1 ≠ 0) ∧ (∀ v, (d.openIt f).1 = some v → (d.openIt f).2.2.1 = 0) := by
  unfold DiskS.openIt
  simp only
  generalize (if (parseL (d.file f)).version < (parseL (d.file (f + 1))).version then parseL (d.file (f + 1)) else parseL (d.file f)) = c at *
  split
  · simp
  · split
    · simp
    · split
      · rename_i h
        exact ⟨fun _ => h, fun v hv => by cases hv⟩
      · simp
theorem mend_fine (d : DiskS) (f : Int) (a b c : HalfS) (h : d.fine) (hc : c.text.length ≤ 1000000) : (d.mendIt f a b c).2.fine := by
  have h1 : ∀ D : DiskS, D.fine → ∀ f', (D.layIt f' c.version c.text).2.fine := fun D hD f' => lay_fine D f' _ _ hD hc
  unfold DiskS.mendIt
  simp only
  by_cases e1 : a ≠ c
  · simp only [if_pos e1]
    split
    · exact h1 d h f
    · split
      · exact h1 _ (h1 d h f) _
      · exact h1 d h f
  · simp only [if_neg e1]
    split
    · exact h
    · split
      · exact h1 _ h _
      · exact h
theorem open_fine (d : DiskS) (f : Int) (h : d.fine) : (d.openIt f).2.2.2.fine ∧ (d.openIt f).2.1.length ≤ 524288 := by
  have ha := (parseL_fine (d.file f)).2
  have hb := (parseL_fine (d.file (f + 1))).2
  have hc : (if (parseL (d.file f)).version < (parseL (d.file (f + 1))).version then parseL (d.file (f + 1)) else parseL (d.file f)).text.length ≤ 524288 := by split <;> assumption
  unfold DiskS.openIt
  simp only
  generalize (if (parseL (d.file f)).version < (parseL (d.file (f + 1))).version then parseL (d.file (f + 1)) else parseL (d.file f)) = c at *
  split
  · exact ⟨h, by simp⟩
  · split
    · exact ⟨h, by simp⟩
    · split
      · exact ⟨mend_fine d f _ _ _ h (by omega), by simp⟩
      · exact ⟨mend_fine d f _ _ _ h (by omega), hc⟩

/-- What Open answers, and leaves. -/
def walOpen (o : Option Nat × List UInt8 × Int × DiskS) (g n : Nat) (L : List (List UInt8)) (J : List UInt8) : Int × DiskS × LogS × Nat :=
  match o.1 with
  | none => (o.2.2.1, o.2.2.2, ⟨0, 0, 0, false⟩, 0)
  | some ver => if J = [] then (0, o.2.2.2, ⟨g, (encL g L).length, L.length, decide (n < (encL g L).length)⟩, ver)
    else walRewrite o.2.2.2 ⟨g, (encL g L).length, L.length, decide (n < (encL g L).length)⟩ ver L
/-- .. as values. -/
def WOut (B bd : Nat) (L : List (List UInt8)) (q : Int × DiskS × LogS × Nat) (x : Ending) (w : World) : Prop :=
  (q.1 = 0 → ∃ kl kc v, x = .returned (.tuple #[.pointer (some ⟨kl, 0, none⟩), v, .int .i64 0]) ∧ B ≤ kl ∧ B ≤ kc ∧ LogAt w kl kc bd q.2.2.1 ∧ CellAt w kc bd 2 q.2.2.2 ∧ StrRow B w v L) ∧
  (q.1 ≠ 0 → x = .returned (.tuple #[.pointer none, .slice none 0 0, .int .i64 q.1]))

set_option maxHeartbeats 8000000 in
theorem wopen_any (d : DiskS) (g n : Nat) (L : List (List UInt8)) (J : List UInt8) (bd : Nat) (w : World) (hd' : DiskAt w bd d) (hf : d.fine) (hg : g + 1 < 18446744073709551616)
    (hs : ∀ v, (d.openIt 2).1 = some v → markL (d.openIt 2).2.1 = (g, (n : Int), true) ∧ (d.openIt 2).2.2.2.file ((g % 2 : Nat) : Int) = encL g L ++ J ∧ v < 1099511627776)
    (hl : ∀ t ∈ L, t.length ≤ 262144) (hj : (openL J).2.2 ≠ 0) (hn : L.length ≤ 100000) (hm : metB g L n L.length = true) (hB : (encL (g + 1) L).length ≤ 1099511627776) (hJ : (encL g L ++ J).length ≤ 1099511627776) :
    Calls Try.prog 35 #[.pointer (some ⟨bd, 0, none⟩)] w fun x w' => WOut w.heap.size bd L (walOpen (d.openIt 2) g n L J) x w' ∧ Upd [bd] w w' ∧ DiskAt w' bd (walOpen (d.openIt 2) g n L J).2.1 := by
  have hbl := hd'.lt
  have hg2 : g % 2 < 2 := Nat.mod_lt _ (by omega)
  have HTO := hd (topen_any d 2 bd w hd' hf (by decide) (by decide))
  obtain ⟨he0, he1⟩ := open_err d 2
  obtain ⟨hfo, hto⟩ := open_fine d 2 hf
  have HWO := hd (show walOpen (d.openIt 2) g n L J = match (d.openIt 2).1 with
  | none => ((d.openIt 2).2.2.1, (d.openIt 2).2.2.2, ⟨0, 0, 0, false⟩, 0)
  | some ver => if J = [] then (0, (d.openIt 2).2.2.2, ⟨g, (encL g L).length, L.length, decide (n < (encL g L).length)⟩, ver)
    else walRewrite (d.openIt 2).2.2.2 ⟨g, (encL g L).length, L.length, decide (n < (encL g L).length)⟩ ver L from rfl)
  clear hd' hf
  generalize walOpen (d.openIt 2) g n L J = OUT at *
  generalize d.openIt 2 = o at *
  obtain ⟨oc, tx, e, D⟩ := o
  simp only at *
  have HJ := hd (show (encL g L).length < (encL g L ++ J).length ↔ J ≠ [] by
    rw [List.length_append]
    rcases J with _ | ⟨x, J⟩
    · simp
    · simp)
  have hel : (encL g L).length ≤ 1099511627776 := by rw [List.length_append] at hJ; omega
  have HSC := hd (fun W => wscan_any g n L J W (by omega) hl hj hn hJ)
  rw [hm] at HSC
  go_enter Try.func35, Try.ntmps35
  go_wp2_with fail
  refine HTO.out.mono ?_
  rintro x w1 ⟨hout, hu1, hd1⟩
  have HU1 := hd hu1
  have HD1 := hd hd1
  clear hu1 hd1 HTO
  rcases oc with _ | ver
  · obtain rfl := hout
    have he := he0 rfl
    have he' : (e != 0) = true := by simpa using he
    have HO := hd HWO.out
    simp only at HO
    clear he0 he1 hs
    go_wp2_with fail
    go_ret3
    rw [HO.out]
    exact ⟨⟨fun h => absurd h he, fun _ => rfl⟩, HU1.out, HD1.out⟩
  · obtain ⟨kc, hkc, rfl, hc1⟩ := hout
    obtain rfl := he1 ver rfl
    obtain ⟨hmk, hfl, hvr⟩ := hs ver rfl
    have HO := hd HWO.out
    simp only at HO
    have HC1 := hd hc1
    have hcl := hc1.lt
    have HPM := hd (fun W => wparseMark_any tx W (by omega))
    rw [hmk] at HPM
    simp only at HPM
    have hrd : D.readIt ((g % 2 : Nat) : Int) = (txt (encL g L ++ J), 0) := by
      unfold DiskS.readIt
      rw [if_pos (by omega)]
      unfold DiskS.file DiskS.readIt at hfl
      rw [if_pos (by omega)] at hfl
      simp only at hfl
      rw [← hfl]
      simp [txt]
    have HRD := hd (fun W (h : DiskAt W bd D) => read_any D ((g % 2 : Nat) : Int) W bd h)
    rw [hrd] at HRD
    simp only at HRD
    have HWF := hd (fun W => wfile_any g W (by omega))
    have hne2 : kc ≠ bd := blk_ne hc1 HD1.out (by decide)
    have hJl : (txt (encL g L ++ J)).size ≤ 1099511627776 := by rw [txt_size]; exact hJ
    have htz : ((txt (encL g L ++ J)).size : Int) = (encL g L ++ J).length := by rw [txt_size]
    clear hc1 hmk hfl hrd he0 he1 hs HWO
    generalize encL g L ++ J = S at *
    generalize encL g L = E at *
    generalize g % 2 = m at *
    go_wp2_with fail
    refine (HPM.out _).mono ?_
    rintro x w2 ⟨rfl, hu2⟩
    have HU2 := hd (HU1.out.trans (hu2.mono (by simp)))
    have HD2 := hd (HD1.out.upd hu2 (by simp))
    have HC2 := hd (HC1.out.upd hu2 (by simp))
    clear hu2 HU1 HD1 HC1
    go_wp2_with fail
    refine (HWF.out _).mono ?_
    rintro x w3 ⟨rfl, rfl⟩
    go_wp2_with fail
    refine (HRD.out _ HD2.out).mono ?_
    rintro x w4 ⟨rfl, hu4⟩
    have HU4 := hd (HU2.out.trans (hu4.mono (by simp)))
    have HD4 := hd (HD2.out.upd hu4 (by simp))
    have HC4 := hd (HC2.out.upd hu4 (by simp))
    clear hu4 HU2 HD2 HC2
    go_wp2_with fail
    refine (HSC.out w4).mono ?_
    rintro x w5 ⟨v, rfl, hu5, hv5⟩
    have hs4 := HU4.out.size
    have HU5 := hd (HU4.out.trans (hu5.mono (by simp)))
    have HD5 := hd (HD4.out.upd hu5 (by simp))
    have HC5 := hd (HC4.out.upd hu5 (by simp))
    have HV5 := hd (own_mono hv5 hs4)
    clear hu5 HU4 HD4 HC4
    obtain ⟨a, cap, rfl, hnc, hcm, -⟩ := own_open hv5
    clear hv5 HPM HWF HRD HSC
    have hk5 : bd < w5.heap.size := HD5.out.lt
    have hc5 := HC5.out.lt
    have hw5 := HU5.out.size
    have e11 : ∃ W k, w5.heap.size = k ∧ w5.alloc (.cells #[.pointer (some ⟨bd, 0, none⟩), .pointer (some ⟨kc, 0, none⟩), .int .u64 g, .int .i64 E.length, .int .i64 L.length, .bool (decide (n < E.length))] 118) = W ∧ Upd [] w5 W ∧ LogAt W k kc bd ⟨g, E.length, L.length, decide (n < E.length)⟩ := ⟨_, _, rfl, rfl, (Upd.refl _ _).alloc _, Blk.new _ _ _⟩
    go_upto_region 12 with fail
    obtain ⟨W6, kl, hkl, hW6, hu6, hl6⟩ := e11
    rw [hW6, hkl]
    clear hW6
    have hklw : w.heap.size ≤ kl := by omega
    have HL6 := hd hl6
    have HU6 := hd (HU5.out.trans (hu6.mono (by simp)))
    have HD6 := hd (HD5.out.upd hu6 (by simp))
    have HC6 := hd (HC5.out.upd hu6 (by simp))
    have HV6 := hd (own_upd HV5.out hu6 (by simp))
    clear hkl hl6 hu6 HU5 HD5 HC5 HV5
    generalize decide (n < E.length) = X at *
    by_cases hJe : J = []
    · have hlt : ¬ ((E.length : Int) < (S.length : Int)) := by have := HJ.out; simp only [hJe, ne_eq, not_true_eq_false, iff_false] at this; omega
      have HZ := hd (HO.out.trans (if_pos hJe))
      clear hJe
      go_wp2_with fail
      go_ret3
      rw [HZ.out]
      exact ⟨⟨fun _ => ⟨kl, kc, _, rfl, hklw, hkc, HL6.out, HC6.out, HV6.out⟩, fun h => absurd rfl h⟩, HU6.out, HD6.out⟩
    · have hlt : ((E.length : Int) < (S.length : Int)) := by have := HJ.out.2 hJe; omega
      have HZ := hd (HO.out.trans (if_neg hJe))
      clear hJe
      have HRW := hd (wrewrite_any D ⟨g, E.length, L.length, X⟩ ver L _ w.heap.size kl kc bd W6 HD6.out HL6.out HC6.out HV6.out hfo hg hvr hl hn hB)
      generalize walRewrite D ⟨g, E.length, L.length, X⟩ ver L = Y at *
      obtain ⟨e6, D6, l6, v6⟩ := Y
      simp only at HRW
      go_wp2_with fail
      refine HRW.out.mono ?_
      rintro x w7 ⟨rfl, hu7, hd7, hl7, hc7⟩
      have hne5 : ∀ g', (Value.slice a L.length cap).ownBlock = some g' → g' ∉ [bd, kl, kc] := fun g' hg' hm' => by
        simp only [List.mem_cons, List.not_mem_nil, or_false] at hm'
        rcases hm' with rfl | rfl | rfl
        · exact own_ne_any HV6.out HD6.out (by decide) _ hg' rfl
        · exact own_ne_any HV6.out HL6.out (by decide) _ hg' rfl
        · exact own_ne_any HV6.out HC6.out (by decide) _ hg' rfl
      have HV7 := hd (own_upd HV6.out hu7 hne5)
      have HU7 := hd (HU6.out.trans' hu7 (by intro i hi; simp only [List.mem_cons, List.not_mem_nil, or_false] at hi ⊢; omega))
      have HD7 := hd hd7
      have HL7 := hd hl7
      have HC7 := hd hc7
      clear hu7 hd7 hl7 hc7 hne5
      by_cases he : e6 = 0
      · have he' : (e6 != 0) = false := by simp [he]
        have he0 := hd he
        clear he
        go_wp2_with fail
        go_ret3
        rw [HZ.out]
        exact ⟨⟨fun _ => ⟨kl, kc, _, rfl, hklw, hkc, HL7.out, HC7.out, HV7.out⟩, fun h => absurd he0.out h⟩, HU7.out, HD7.out⟩
      · have he' : (e6 != 0) = true := by simpa using he
        have he0 := hd he
        clear he
        go_wp2_with fail
        go_ret3
        rw [HZ.out]
        exact ⟨⟨fun h => absurd h he0.out, fun _ => rfl⟩, HU7.out, HD7.out⟩
end Go.Proofs.Ytjaoiaknglnomaa

/-
  The fixed fact of layer 12 (chatelainelaw12.awake), walked: it holds. No condition.
-/
set_option linter.unusedVariables false
set_option linter.unusedSimpArgs false
set_option maxRecDepth 100000
namespace Go.Proofs.Ytjaoiaknglnomaa
open Go.RowKit

/-- A disk with nothing on it. -/
def bareD (room : Int) : DiskS := ⟨⟨⟨#[]⟩, ⟨#[]⟩, false⟩, ⟨⟨#[]⟩, ⟨#[]⟩, false⟩, ⟨⟨#[]⟩, ⟨#[]⟩, false⟩, ⟨⟨#[]⟩, ⟨#[]⟩, false⟩, room, 0⟩
theorem bare_fine (r : Int) (h1 : r ≤ 1099511627776) : (bareD r).fine := by
  have h0 : (⟨#[]⟩ : ByteArray).size = 0 := rfl
  refine ⟨⟨⟨?_, ?_⟩, ⟨?_, ?_⟩, ⟨?_, ?_⟩, ⟨?_, ?_⟩⟩, ?_, ?_, ?_⟩
  all_goals (simp only [bareD, h0]; omega)
theorem bare_open (r : Int) (f : Nat) (hf : f ≤ 2) : (bareD r).openIt f = (some 0, [], 0, bareD r) := by
  apply open_none
  · rcases (by omega : f = 0 ∨ f = 1 ∨ f = 2) with rfl | rfl | rfl <;> rfl
  · rcases (by omega : f = 0 ∨ f = 1 ∨ f = 2) with rfl | rfl | rfl <;> rfl
theorem bare_write (r : Int) (f : Nat) (hf : f ≤ 2) (s : List UInt8) (hs : s.length ≤ 524288) (hr : 2 * ((s.length : Int) + 40) ≤ r) :
    (bareD r).writeIt f 0 s = (0, (bareD r).wrote f 1 s, 1) := by
  have hu : (bareD r).used = 0 := rfl
  have h1 := uBytes_le 1
  have h2 := nBytes_le (s.length : Int)
  have hl : (spellL 1 s).length ≤ s.length + 40 := by
    simp only [spellL, frameL, bodyL, List.length_append, List.length_cons, wideOf_length]
    omega
  have := write_ok (bareD r) f 0 s hf hs rfl (by rw [hu, show (bareD r).room = r from rfl, show 0 + 1 = 1 from rfl]; omega)
  exact this
theorem wrote_fine (d : DiskS) (f v : Nat) (s : List UInt8) (h : d.fine) (hs : s.length ≤ 1000000) : (d.wrote f v s).fine := by
  have hl := spellL_len v s hs
  have hx : (sureF (spellL v s)).small := by constructor <;> (simp only [sureF, txt_size]; omega)
  exact set_fine _ _ _ (set_fine _ _ _ h hx) hx

set_option maxHeartbeats 2000000 in
theorem awake12_any (w : World) : Calls Try.prog 25 #[] w fun e w' => e = .returned (.bool true) ∧ Upd [] w w' := by
  have hrd : ((bareD 1000).wrote 1 1 [97]).readIt 2 = (txt (spellL 1 [97]), 0) := rfl
  have HRD := hd hrd
  clear hrd
  go_enter Try.func25, Try.ntmps25
  go_wp2_with fail
  refine (new_any 1000 w).mono ?_
  rintro e w1 ⟨b, rfl, hb, hu1, hd1⟩
  have hd1 : DiskAt w1 b (bareD 1000) := hd1
  have HB := hd hb
  have HU1 := hd hu1
  have HD1 := hd hd1
  clear hb hu1 hd1
  go_wp2_with fail
  refine (topen_any (bareD 1000) 1 b w1 HD1.out (bare_fine 1000 (by decide)) (by decide) (by decide)).mono ?_
  rintro e w2 ⟨ho, hu2, hd2⟩
  have hbo : (bareD 1000).openIt 1 = (some 0, [], 0, bareD 1000) := bare_open 1000 1 (by decide)
  rw [hbo] at ho hd2
  obtain ⟨kc, hkc, rfl, hc2⟩ := ho
  have HKC := hd hkc
  clear hkc
  have HU2 := hd hu2
  have HD2 := hd hd2
  have HC2 := hd hc2
  clear hu2 hd2 hc2 hbo
  have hte : (txt []).toList = [] := txt_list []
  go_wp2_with fail
  refine (cwrite_any (bareD 1000) 1 0 [97] kc b w2 HD2.out HC2.out (bare_fine 1000 (by decide)) (by decide) (by decide) (by decide) (by decide)).mono ?_
  rintro e w3 ⟨rfl, hu3, hd3, hc3⟩
  have hbw : (bareD 1000).writeIt 1 0 [97] = (0, (bareD 1000).wrote 1 1 [97], 1) := bare_write 1000 1 (by decide) [97] (by decide) (by decide)
  rw [hbw] at hd3 hc3 ⊢
  have HU3 := hd hu3
  have HD3 := hd hd3
  have HC3 := hd hc3
  clear hu3 hd3 hc3 hbw
  go_wp2_with fail
  refine (read_any ((bareD 1000).wrote 1 1 [97]) 2 w3 b HD3.out).mono ?_
  rintro e w4 ⟨rfl, hu4⟩
  rw [HRD.out]
  have HU4 := hd hu4
  clear hu4
  go_wp2_with fail
  refine (refSpell_any 1 [97] w4 (by decide) (by decide)).mono ?_
  rintro e w5 ⟨rfl, hu5⟩
  have HU5 := hd hu5
  have HC5 := hd ((HC3.out.upd HU4.out (by simp)).upd hu5 (by simp))
  clear hu5
  go_wp2_with fail
  refine (version_any kc b 1 1 w5 HC5.out).mono ?_
  rintro e w6 ⟨rfl, rfl⟩
  go_wp2_with fail
  go_ret
  have hB := HB.out
  have hK := HKC.out
  have hs1 := HU1.out.size
  refine ⟨rfl, ?_⟩
  exact HU1.out.trans' (((HU2.out.mono (by simp)).trans HU3.out).trans ((HU4.out.trans HU5.out).mono (by simp))) (by intro i hi; simp at hi; omega)
end Go.Proofs.Ytjaoiaknglnomaa

/-
  chatelainelaw01.Cut, walked; and a crash of a disk whose files are all sure: nothing is lost.
-/
set_option linter.unusedVariables false
set_option linter.unusedSimpArgs false
set_option maxRecDepth 100000
namespace Go.Proofs.Ytjaoiaknglnomaa
open Go.RowKit

theorem cut_any (s : List UInt8) (most : Nat) (w : World) (hs : s.length ≤ 9223372036854775807) (hm : most ≤ 1000000) :
    Calls Try.prog 29 #[.string (txt s), .int .i64 most] w fun x w' => x = .returned (.string (txt (s.take most))) ∧ w = w' := by
  by_cases h : most < s.length
  · have h' : (most : Int) < (s.length : Int) := by omega
    have hx := txt_head s most (by omega)
    go_enter Try.func29, Try.ntmps29
    go_wp2_with fail
    go_ret
    exact ⟨rfl, rfl⟩
  · have h' : ¬ (most : Int) < (s.length : Int) := by omega
    rw [List.take_of_length_le (by omega)]
    go_enter Try.func29, Try.ntmps29
    go_wp2_with fail
    go_ret
    exact ⟨rfl, rfl⟩

/-- All is sure. -/
def DiskS.calm (d : DiskS) : Prop := d.fail = 0 ∧ ∀ i, (d.get i).sure = (d.get i).now ∧ (d.get i).put = false
theorem calm_safe {f : FileS} (h : f.sure = f.now ∧ f.put = false) : f.safe = true ∧ (⟨f.now, f.now, false⟩ : FileS) = f := by
  obtain ⟨n, s, p⟩ := f
  simp only at h
  obtain ⟨h1, h2⟩ := h
  subst h1 h2
  exact ⟨by simp [FileS.safe], rfl⟩
theorem set_get (d : DiskS) (i : Nat) : d.set i (d.get i) = d := by
  match i with
  | 0 => rfl
  | 1 => rfl
  | 2 => rfl
  | n + 3 => rfl
theorem crash_calm (d : DiskS) (cs : List Int) (h : d.calm) : d.crashIt cs = d := by
  obtain ⟨h0, hg⟩ := h
  have e0 : ({ d with fail := 0 } : DiskS) = d := by obtain ⟨f0, f1, f2, f3, r, fl⟩ := d; simp only at h0; subst h0; rfl
  have key : ∀ k, crashTo d cs k = (d, cs) := by
    intro k
    induction k with
    | zero => unfold crashTo; rw [e0]
    | succ k ih =>
      obtain ⟨c1, c2⟩ := calm_safe (hg k)
      rw [crashTo, ih]
      unfold crashStep
      rw [if_pos c1, c2, set_get]
  unfold DiskS.crashIt
  rw [key]
theorem bare_calm (r : Int) : (bareD r).calm := ⟨rfl, fun i => by
  match i with
  | 0 => exact ⟨rfl, rfl⟩
  | 1 => exact ⟨rfl, rfl⟩
  | 2 => exact ⟨rfl, rfl⟩
  | n + 3 => exact ⟨rfl, rfl⟩⟩
theorem set_calm (d : DiskS) (i : Nat) (x : List UInt8) (h : d.calm) : (d.set i (sureF x)).calm := by
  obtain ⟨h0, hg⟩ := h
  refine ⟨by rw [(set_rest _ _ _).2]; exact h0, fun j => ?_⟩
  have g0 := hg 0
  have g1 := hg 1
  have g2 := hg 2
  have g3 := hg 3
  match i, j with
  | 0, 0 => exact ⟨rfl, rfl⟩
  | 0, 1 => exact g1
  | 0, 2 => exact g2
  | 0, n + 3 => exact g3
  | 1, 0 => exact g0
  | 1, 1 => exact ⟨rfl, rfl⟩
  | 1, 2 => exact g2
  | 1, n + 3 => exact g3
  | 2, 0 => exact g0
  | 2, 1 => exact g1
  | 2, 2 => exact ⟨rfl, rfl⟩
  | 2, n + 3 => exact g3
  | m + 3, 0 => exact g0
  | m + 3, 1 => exact g1
  | m + 3, 2 => exact g2
  | m + 3, n + 3 => exact ⟨rfl, rfl⟩
theorem wrote_calm (d : DiskS) (f v : Nat) (s : List UInt8) (h : d.calm) : (d.wrote f v s).calm := set_calm _ _ _ (set_calm _ _ _ h)
end Go.Proofs.Ytjaoiaknglnomaa

/-
  The law TwinCounts of layer 12 (chatelainelaw12.TwinCounts), walked: it answers true. Condition: the two lists read as lists.
-/
set_option linter.unusedVariables false
set_option linter.unusedSimpArgs false
set_option maxRecDepth 100000
namespace Go.Proofs.Ytjaoiaknglnomaa
open Go.RowKit

/-- A list of texts that came in; its cells lie below block B. -/
def StrsAt (B : Nat) (w : World) (v : Value) (n : Nat) (f : Nat → List UInt8) : Prop :=
  ∃ (a : Option Addr) (c : Nat), v = .slice a n c ∧ n ≤ c ∧ c ≤ 9223372036854775807 ∧ (0 < n → ∃ k o, a = some ⟨k, o, none⟩ ∧ k < B ∧ ∀ i, i < n → w.cell? ⟨k, o + i, none⟩ = some (.string (txt (f i))) ∧ (f i).length ≤ 9223372036854775807)
def BoolsAt (B : Nat) (w : World) (v : Value) (n : Nat) (g : Nat → Bool) : Prop :=
  ∃ (a : Option Addr) (c : Nat), v = .slice a n c ∧ n ≤ c ∧ c ≤ 9223372036854775807 ∧ (0 < n → ∃ k o, a = some ⟨k, o, none⟩ ∧ k < B ∧ ∀ i, i < n → w.cell? ⟨k, o + i, none⟩ = some (.bool (g i)))

/-- What the loop keeps of the disk. -/
structure Cozy (D : DiskS) : Prop where
  calm : D.calm
  fine : D.fine
  room : D.room = 10000
  used : D.f0.weight = 0 ∧ D.f3.weight = 0 ∧ D.f1.weight ≤ 110 ∧ D.f2.weight ≤ 110
theorem bare_cozy : Cozy (bareD 10000) := ⟨bare_calm _, bare_fine _ (by decide), rfl, by decide, by decide, by decide, by decide⟩
theorem spellL_short (v : Nat) (s : List UInt8) (hs : s.length ≤ 40) : (spellL v s).length ≤ 110 := by
  have h1 := uBytes_le v
  have h2 := nBytes_le (s.length : Int)
  simp only [spellL, frameL, bodyL, List.length_append, List.length_cons, wideOf_length]
  omega
theorem wrote_cozy (D : DiskS) (v : Nat) (s : List UInt8) (h : Cozy D) (hs : s.length ≤ 40) : Cozy (D.wrote 1 v s) := by
  have hl := spellL_short v s hs
  refine ⟨wrote_calm _ _ _ _ h.calm, wrote_fine _ _ _ _ h.fine (by omega), h.room, h.used.1, h.used.2.1, ?_, ?_⟩
  · show (sureF (spellL v s)).weight ≤ 110
    rw [weight_sure]; exact hl
  · show (sureF (spellL v s)).weight ≤ 110
    rw [weight_sure]; exact hl
theorem cozy_write (D : DiskS) (ver : Nat) (s : List UInt8) (h : Cozy D) (hs : s.length ≤ 40) : D.writeIt 1 ver s = (0, D.wrote 1 (ver + 1) s, ver + 1) := by
  have hl := spellL_short (ver + 1) s hs
  obtain ⟨u0, u3, u1, u2⟩ := h.used
  have hu : D.used ≤ 220 := by unfold DiskS.used; omega
  exact write_ok D 1 ver s (by decide) (by omega) h.calm.1 (by rw [h.room]; omega)

theorem calm_ok (D : DiskS) (h : D.calm) : D.ok := fun i _ => by rw [(h.2 i).1]; exact Nat.le_refl _
set_option maxHeartbeats 4000000 in
theorem counts_law (v1 v2 : Value) (n1 n2 : Nat) (f : Nat → List UInt8) (g : Nat → Bool) (w : World) (h1 : StrsAt w.heap.size w v1 n1 f) (h2 : BoolsAt w.heap.size w v2 n2 g) :
    Calls Try.prog 8 #[v1, v2] w fun e w' => e = .returned (.bool true) ∧ Upd [] w w' := by
  obtain ⟨a1, c1, rfl, hc1, hm1, he1⟩ := h1
  obtain ⟨a2, c2, rfl, hc2, hm2, he2⟩ := h2
  have HE1 := hd he1
  have HE2 := hd he2
  clear he1 he2
  go_enter Try.func8, Try.ntmps8
  go_wp2_with fail
  refine (awake12_any w).mono ?_
  rintro e w1 ⟨rfl, hu1⟩
  have HU1 := hd hu1
  clear hu1
  go_wp2_with fail
  refine (new_any 10000 w1).mono ?_
  rintro e w2 ⟨b, rfl, hb, hu2, hd2⟩
  have hd2 : DiskAt w2 b (bareD 10000) := hd2
  have HB := hd (Nat.le_trans HU1.out.size hb)
  have HU2 := hd (HU1.out.trans hu2)
  have HD2 := hd hd2
  clear hb hu2 hd2
  go_wp2_with fail
  refine (topen_any (bareD 10000) 1 b w2 HD2.out bare_cozy.fine (by decide) (by decide)).mono ?_
  rintro e w3 ⟨ho, hu3, hd3⟩
  have hbo : (bareD 10000).openIt 1 = (some 0, [], 0, bareD 10000) := bare_open 10000 1 (by decide)
  rw [hbo] at ho hd3
  obtain ⟨kc, hkc, rfl, hc3⟩ := ho
  have HKC := hd (Nat.le_trans HU2.out.size hkc)
  have HU3 := hd (HU2.out.trans' hu3 (by intro i hi; have := HB.out; simp at hi; omega))
  have HD3 := hd hd3
  have HC3 := hd hc3
  clear hkc hu3 hd3 hc3 hbo HU1 HU2 HD2
  go_wp2_with fail
  go_loopw [6, 9] (fun c i wr => ∃ (j : Nat) (D : DiskS) (k : Nat), j ≤ 12 ∧ i = .int .i64 j ∧ c = .pointer (some ⟨k, 0, none⟩) ∧ w.heap.size ≤ k ∧ Upd [] w wr ∧ DiskAt wr b D ∧ CellAt wr k b 1 j ∧ Cozy D) (fun _ i _ => 12 - (intOf i).toNat)
  case atStart => exact ⟨0, bareD 10000, kc, by omega, rfl, rfl, HKC.out, HU3.out, HD3.out, HC3.out, bare_cozy⟩
  case round =>
    obtain ⟨j, D, k, hj, rfl, rfl, hk, hu, hD, hC, hZ⟩ := hrel
    have HU := hd hu
    have HD := hd hD
    have HC := hd hC
    have HZ := hd hZ
    have HK := hd hk
    by_cases hn : j < n1
    · have hn' : (j : Int) < (n1 : Int) := by omega
      obtain ⟨k1, o1, rfl, hk1, hel⟩ := HE1.out (by omega)
      obtain ⟨hcell, hlen⟩ := hel j hn
      have hcw : wr.cell? ⟨k1, o1 + j, none⟩ = some (.string (txt (f j))) := (World.cell?_of_block (hu.block k1 hk1 (by simp))).trans hcell
      have hne : k ≠ b := blk_ne hC hD (by decide)
      clear hu hD hC hZ hel hcell hk
      by_cases h12 : j < 12
      · have h12' : (j : Int) < 12 := by omega
        have hw64 : IntKind.u64.wrap ((j : Int) + 1) = (j : Int) + 1 := by rw [IntKind.wrap_u64]; omega
        have hvv : (((j + 1 : Nat) : Int) != (j : Int) + 1) = false := by simp
        have hvw : ((j : Int) + 1 != (j : Int) + 1) = false := by simp
        have HS := hd (show ((f j).take 40).length ≤ 40 by rw [List.length_take]; omega)
        go_wp2_with fail
        refine (cut_any (f j) 40 wr hlen (by decide)).mono ?_
        rintro e w4 ⟨rfl, rfl⟩
        generalize (f j).take 40 = S at *
        have HWR := hd (cozy_write D j S HZ.out HS.out)
        have HZ2 := hd (wrote_cozy D (j + 1) S HZ.out HS.out)
        have HOW := hd (show (D.wrote 1 (j + 1) S).openIt 1 = (some (j + 1), S, 0, D.wrote 1 (j + 1) S) from open_wrote D 1 (j + 1) S (by decide) (by omega) (by omega) (by have := HS.out; omega))
        go_wp2_with fail
        refine (cwrite_any D 1 j S k b wr HD.out HC.out HZ.out.fine (by decide) (by decide) (by omega) (by have := HS.out; omega)).mono ?_
        rintro e w5 ⟨rfl, hu5, hd5, hc5⟩
        rw [HWR.out] at hd5 hc5 ⊢
        generalize D.wrote 1 (j + 1) S = D2 at *
        have HU5 := hd (HU.out.trans' hu5 (by intro i hi; have := HB.out; have := HK.out; simp at hi; omega))
        have HD5 := hd hd5
        have HC5 := hd hc5
        clear hu5 hd5 hc5
        go_wp2_with fail
        refine (version_any k b 1 (j + 1) w5 HC5.out).mono ?_
        rintro e w6 ⟨rfl, rfl⟩
        by_cases hm : j < n2
        · have hm' : (j : Int) < (n2 : Int) := by omega
          obtain ⟨k2, o2, rfl, hk2, hel2⟩ := HE2.out (by omega)
          have hcw2 : w5.cell? ⟨k2, o2 + j, none⟩ = some (.bool (g j)) := (World.cell?_of_block (HU5.out.block k2 hk2 (by simp))).trans (hel2 j hm)
          clear hel2
          rcases hg : g j with _ | _
          · rw [hg] at hcw2
            go_wp2_with fail
            go_roundw
            case rel => exact ⟨j + 1, D2, k, by omega, by go_num, rfl, HK.out, HU5.out, HD5.out, HC5.out, HZ2.out⟩
            case measure => simp [intOf]; omega
          · rw [hg] at hcw2
            go_wp2_with fail
            refine (crash_any D2 _ [] w5 b HD5.out HZ2.out.fine.small (calm_ok _ HZ2.out.calm) ⟨none, 0, rfl, by simp, by omega, by simp⟩).mono ?_
            rintro e w7 ⟨rfl, hu7, hd7⟩
            rw [crash_calm _ _ HZ2.out.calm] at hd7
            have HU7 := hd (HU5.out.trans' hu7 (by intro i hi; have := HB.out; simp at hi; omega))
            have HD7 := hd hd7
            clear hu7 hd7
            go_wp2_with fail
            refine (topen_any D2 1 b w7 HD7.out HZ2.out.fine (by decide) (by decide)).mono ?_
            rintro e w8 ⟨ho, hu8, hd8⟩
            rw [HOW.out] at ho hd8
            obtain ⟨kd, hkd, rfl, hc8⟩ := ho
            have HKD := hd (Nat.le_trans HU7.out.size hkd)
            have HU8 := hd (HU7.out.trans' hu8 (by intro i hi; have := HB.out; simp at hi; omega))
            have HD8 := hd hd8
            have HC8 := hd hc8
            clear hkd hu8 hd8 hc8
            go_wp2_with fail
            refine (version_any kd b 1 (j + 1) w8 HC8.out).mono ?_
            rintro e w9 ⟨rfl, rfl⟩
            go_wp2_with fail
            go_roundw
            case rel => exact ⟨j + 1, D2, kd, by omega, by go_num, rfl, HKD.out, HU8.out, HD8.out, HC8.out, HZ2.out⟩
            case measure => simp [intOf]; omega
        · have hm' : ¬ (j : Int) < (n2 : Int) := by omega
          go_wp2_with fail
          go_roundw
          case rel => exact ⟨j + 1, D2, k, by omega, by go_num, rfl, HK.out, HU5.out, HD5.out, HC5.out, HZ2.out⟩
          case measure => simp [intOf]; omega
      · obtain rfl : j = 12 := by omega
        go_wp2_with fail
        go_ret
        exact ⟨rfl, HU.out⟩
    · have hn' : ¬ (j : Int) < (n1 : Int) := by omega
      clear hu hD hC hZ hk
      go_wp2_with fail
      go_ret
      exact ⟨rfl, HU.out⟩
end Go.Proofs.Ytjaoiaknglnomaa
