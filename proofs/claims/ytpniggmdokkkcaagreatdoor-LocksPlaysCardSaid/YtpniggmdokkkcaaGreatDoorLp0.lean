/-
  The law LocksPlays of layer 22, walked: it answers true. Conditions: the calls read as calls; the library's variables hold what they are laid to hold.
-/
import Derived.Test.YtpniggmdokkkcaaGreatDoorLb20
import Derived.Test.YtpniggmdokkkcaaGreatDoorLb21
import Derived.BigRegion
set_option linter.unusedVariables false
set_option linter.unusedSimpArgs false
set_option maxRecDepth 100000
namespace Go.Proofs.YtpniggmdokkkcaaGreatDoor
open Go.RowKit

/-- The two books after some calls, in memory. -/
structure PSt (w0 : World) (k kx n : Nat) (wr : World) (vh vw rh rw' : Value) (d : BkS) (lh lw : List RLk) (last : Int) : Prop where
  book : BookAt w0.heap.size wr k vh vw d
  blk : Blk wr kx #[rh, rw', .int .u64 last] 29
  rel : Rel d ⟨fsts lh, fsts lw, last⟩
  rh : RRow w0.heap.size wr rh lh
  rw' : RRow w0.heap.size wr rw' lw
  upd : Upd [] w0 wr
  far : ∀ g ∈ foot k vh vw, w0.heap.size ≤ g
  kx : w0.heap.size ≤ kx
  wf : WfB d
  few : tot d ≤ n
  ses : Ses (fun z => 1 ≤ z ∧ z ≤ 9) d
def PSt' (w0 : World) (k kx n : Nat) (wr : World) : Prop := ∃ vh vw rh rw' d lh lw last, PSt w0 k kx n wr vh vw rh rw' d lh lw last
theorem PSt.later {w0 : World} {k kx n : Nat} {wr w : World} {vh vw rh rw' : Value} {d : BkS} {lh lw : List RLk} {last : Int} (h : PSt w0 k kx n wr vh vw rh rw' d lh lw last) (hu : Upd [] wr w) : PSt w0 k kx n w vh vw rh rw' d lh lw last :=
  ⟨h.book.later hu, h.blk.upd hu (by simp), h.rel, h.rh.later hu, h.rw'.later hu, h.upd.trans hu, h.far, h.kx, h.wf, h.few, h.ses⟩
theorem PSt.six {w0 : World} {k kx n : Nat} {wr : World} {vh vw rh rw' : Value} {d : BkS} {lh lw : List RLk} {last : Int} (h : PSt w0 k kx n wr vh vw rh rw' d lh lw last) : ∀ e ∈ lh, Six e.1.path :=
  fun e he => h.rel.six e.1 (List.mem_append_left _ (List.mem_map.2 ⟨e, he, rfl⟩))
theorem PSt.is {w0 : World} {k kx n : Nat} {wr : World} {vh vw rh rw' : Value} {d : BkS} {lh lw : List RLk} {last : Int} (h : PSt w0 k kx n wr vh vw rh rw' d lh lw last) (W : World) (hu : Upd [] wr W) (hD : Door W) :
    Calls Tryz.prog 10 #[.pointer (some ⟨k, 0, none⟩), .agg #[rh, rw', .int .u64 last]] W fun r w' => r = .returned (.bool true) ∧ Upd [] W w' :=
  is22_any last W (h.book.later hu) hD h.wf (h.rh.later hu) (h.rw'.later hu) (isdoc_of h.rel) h.six
theorem PSt.kxf {w0 : World} {k kx n : Nat} {wr : World} {vh vw rh rw' : Value} {d : BkS} {lh lw : List RLk} {last : Int} (h : PSt w0 k kx n wr vh vw rh rw' d lh lw last) : kx ∉ foot k vh vw := by
  intro hm
  have := foot_kind h.book kx hm
  obtain ⟨c, T, hc, -, -⟩ := this
  have hb2 := h.blk
  rcases mem_foot.1 hm with e | e | e
  · have h3 := h.book.blk
    rw [← e] at h3
    rw [Blk, hb2] at h3
    simp only [Option.some.injEq, Obj.cells.injEq] at h3
    exact absurd h3.2 (by decide)
  · exact own_ne_any h.book.held hb2 (by decide) kx e rfl
  · exact own_ne_any h.book.waits hb2 (by decide) kx e rfl
/-- What a call leaves behind the law's own store. -/
structure DoneAt (B k : Nat) (vh vw : Value) (d : BkS) (w wx : World) (k9 : Nat) (vh5 vw5 rh5 rw5 : Value) (d5 : BkS) (lh5 lw5 : List RLk) (last5 : Int) : Prop where
  book : BookAt B wx k vh5 vw5 d5
  rel : Rel d5 ⟨fsts lh5, fsts lw5, last5⟩
  hh : RRow B wx rh5 lh5
  hw : RRow B wx rw5 lw5
  upd : Upd (foot k vh vw) w wx
  far : ∀ g ∈ foot k vh5 vw5, g ∈ foot k vh vw ∨ w.heap.size ≤ g
  wf : WfB d5
  few : tot d5 ≤ tot d + 1
  ses : Ses (fun z => 1 ≤ z ∧ z ≤ 9) d5
  blk : Blk wx k9 #[rh5, rw5, .int .u64 last5] 29
  ge : w.heap.size ≤ k9
theorem DoneAt.later {B k : Nat} {vh vw : Value} {d : BkS} {w wx wy : World} {k9 : Nat} {vh5 vw5 rh5 rw5 : Value} {d5 : BkS} {lh5 lw5 : List RLk} {last5 : Int} (h : DoneAt B k vh vw d w wx k9 vh5 vw5 rh5 rw5 d5 lh5 lw5 last5) (hu : Upd [] wx wy) : DoneAt B k vh vw d w wy k9 vh5 vw5 rh5 rw5 d5 lh5 lw5 last5 :=
  ⟨h.book.later hu, h.rel, h.hh.later hu, h.hw.later hu, h.upd.trans (hu.mono (by simp)), h.far, h.wf, h.few, h.ses, h.blk.upd hu (by simp), h.ge⟩
/-- The store goes into a block that lay there already. -/
theorem done_a {B k : Nat} {vh vw : Value} {d : BkS} {w wa w5 : World} {k9 : Nat} {c0 c1 c2 : Value} {vh5 vw5 rh5 rw5 : Value} {d5 : BkS} {lh5 lw5 : List RLk} {last5 : Int} (hwa : Upd [] w wa) (hb : BookAt B w5 k vh5 vw5 d5) (hr : Rel d5 ⟨fsts lh5, fsts lw5, last5⟩) (h1 : RRow B w5 rh5 lh5) (h2 : RRow B w5 rw5 lw5)
    (hu : Upd (foot k vh vw) wa w5) (hf : ∀ g ∈ foot k vh5 vw5, g ∈ foot k vh vw ∨ wa.heap.size ≤ g) (hw : WfB d5) (ht : tot d5 ≤ tot d + 1) (hs : Ses (fun z => 1 ≤ z ∧ z ≤ 9) d5) (hbk : Blk w5 k9 #[c0, c1, c2] 29) (hk : w.heap.size ≤ k9) (hkl : k9 < wa.heap.size) (hkf : k9 ∉ foot k vh vw) :
    DoneAt B k vh vw d w (((w5.setCell ⟨k9, 0, none⟩ rh5).setCell ⟨k9, 1, none⟩ rw5).setCell ⟨k9, 2, none⟩ (.int .u64 last5)) k9 vh5 vw5 rh5 rw5 d5 lh5 lw5 last5 := by
  have hk9 := up3 (k := k9) (Upd.refl [k9] w5) (.inl (by simp)) rh5 rw5 (.int .u64 last5)
  have hs1 := hwa.size
  refine ⟨hb.later' hk9 (fun i hi hm => ?_), hr, h1.far hbk (by decide) (by decide) hk9, h2.far hbk (by decide) (by decide) hk9, ((hwa.mono (M := foot k vh vw) (by simp)).trans hu).trans' hk9 (fun i hi => .inr ?_), fun g hg => (hf g hg).elim .inl (fun h => .inr (by omega)), hw, ht, hs, putB hbk _ _ _, hk⟩
  · simp only [List.mem_cons, List.not_mem_nil, or_false] at hm
    subst hm
    rcases hf _ hi with h3 | h3
    · exact hkf h3
    · omega
  · simp only [List.mem_cons, List.not_mem_nil, or_false] at hi
    omega
/-- The store goes into a new block. -/
theorem done_b {B k : Nat} {vh vw : Value} {d : BkS} {w wa w5 : World} {vh5 vw5 rh5 rw5 : Value} {d5 : BkS} {lh5 lw5 : List RLk} {last5 : Int} (hwa : Upd [] w wa) (hb : BookAt B w5 k vh5 vw5 d5) (hr : Rel d5 ⟨fsts lh5, fsts lw5, last5⟩) (h1 : RRow B w5 rh5 lh5) (h2 : RRow B w5 rw5 lw5)
    (hu : Upd (foot k vh vw) wa w5) (hf : ∀ g ∈ foot k vh5 vw5, g ∈ foot k vh vw ∨ wa.heap.size ≤ g) (hw : WfB d5) (ht : tot d5 ≤ tot d + 1) (hs : Ses (fun z => 1 ≤ z ∧ z ≤ 9) d5) :
    DoneAt B k vh vw d w (w5.alloc (.cells #[rh5, rw5, .int .u64 last5] 29)) w5.heap.size vh5 vw5 rh5 rw5 d5 lh5 lw5 last5 := by
  have hs1 := hwa.size
  have hs2 := hu.size
  have ha := (Upd.refl [] w5).alloc (.cells #[rh5, rw5, .int .u64 last5] 29)
  exact ⟨hb.later ha, hr, h1.later ha, h2.later ha, ((hwa.mono (M := foot k vh vw) (by simp)).trans hu).trans (ha.mono (by simp)), fun g hg => (hf g hg).elim .inl (fun h => .inr (by omega)), hw, ht, hs, Blk.new _ _ _, by omega⟩
/-- One call more. -/
theorem PSt.next {w0 : World} {k kx n : Nat} {wr w W : World} {vh vw rh rw' vh2 vw2 rh2 rw2 : Value} {d d2 : BkS} {lh lw lh2 lw2 : List RLk} {last last2 : Int} (h : PSt w0 k kx n wr vh vw rh rw' d lh lw last)
    (hb : BookAt w0.heap.size w k vh2 vw2 d2) (hr : Rel d2 ⟨fsts lh2, fsts lw2, last2⟩) (h1 : RRow w0.heap.size w rh2 lh2) (h2 : RRow w0.heap.size w rw2 lw2) (hu : Upd (foot k vh vw) wr w)
    (hf : ∀ g ∈ foot k vh2 vw2, g ∈ foot k vh vw ∨ wr.heap.size ≤ g) (hw : WfB d2) (ht : tot d2 ≤ tot d + 1) (hs : Ses (fun z => 1 ≤ z ∧ z ≤ 9) d2)
    (hW : (((w.setCell ⟨kx, 0, none⟩ rh2).setCell ⟨kx, 1, none⟩ rw2).setCell ⟨kx, 2, none⟩ (.int .u64 last2)) = W) : PSt w0 k kx (n + 1) W vh2 vw2 rh2 rw2 d2 lh2 lw2 last2 := by
  have hkx := h.kxf
  have hbx := h.blk.upd hu hkx
  have hk9 := up3 (k := kx) (Upd.refl [kx] w) (.inl (by simp)) rh2 rw2 (.int .u64 last2)
  have hlt := h.blk.lt
  rw [hW] at hk9
  refine ⟨hb.later' hk9 (fun i hi hm => ?_), ?_, hr, h1.far hbx (by decide) (by decide) hk9, h2.far hbx (by decide) (by decide) hk9, (h.upd.trans' hu (fun i hi => .inr (h.far i hi))).trans' hk9 (fun i hi => .inr ?_), fun g hg => ?_, h.kx, hw, by have := h.few; omega, hs⟩
  · simp only [List.mem_cons, List.not_mem_nil, or_false] at hm
    subst hm
    rcases hf _ hi with h3 | h3
    · exact hkx h3
    · omega
  · rw [← hW]
    exact putB hbx _ _ _
  · simp only [List.mem_cons, List.not_mem_nil, or_false] at hi
    rw [hi]; exact h.kx
  · rcases hf _ hg with h3 | h3
    · exact h.far g h3
    · have := h.upd.size; omega
/-- A book that nothing of a call turns. -/
theorem book_far {B k k' : Nat} {w w2 : World} {vh vw vh' vw' : Value} {d d' : BkS} {m : Nat} (h : BookAt B w k vh vw d) (h' : BookAt m w k' vh' vw' d') (hm : ∀ i ∈ foot k vh vw, i < m) (hk : m ≤ k') (hu : Upd (foot k vh vw) w w2) : BookAt m w2 k' vh' vw' d' :=
  h'.later' hu (fun i hi hj => by
    have h1 := hm i hj
    rcases mem_foot.1 hi with e | e | e
    · omega
    · have := own_ge h'.held i e; omega
    · have := own_ge h'.waits i e; omega)

set_option maxHeartbeats 32000000 in
theorem plays_law (last : Int) (acts : List ActS) (va : Value) (w : World) (hD : Door w) (ha : ActsAt w va acts) (h0 : 0 ≤ last) (h1 : last ≤ 18446744073709551615) :
    Calls Tryz.prog 3 #[.int .u64 last, va] w fun e w' => e = .returned (.bool true) ∧ Upd [] w w' := by
  have HD := hd hD
  have HL := hd (door_lt hD)
  have HA := hd ha
  have HAW := hd (awake22_any w hD)
  have HNW := hd (fun W => new_any last W)
  have HWF := hd (wf_0 last h0 h1)
  obtain ⟨aa, ac, rfl, -⟩ := ha
  clear hD h0 h1
  go_enter Tryz.func3, Tryz.ntmps3
  go_wp2_with fail
  refine HAW.out.mono ?_
  rintro e w1 ⟨rfl, hu1⟩
  have HU1 := hd hu1
  clear hu1
  go_wp2_with fail
  refine (HNW.out w1).mono ?_
  rintro e w2 ⟨rfl, hu2, hb2⟩
  have hs1 := HU1.out.size
  have HU2 := hd (HU1.out.trans hu2)
  obtain ⟨k, hk⟩ : ∃ k, w1.heap.size = k := ⟨_, rfl⟩
  rw [hk] at hb2 hs1 ⊢
  have HB2 := hd hb2
  have HK := hd hs1
  have HKF := hd hk
  have e2 := one_lk w2 #[.slice none 0 0, .slice none 0 0, .int .u64 last] 29
  clear hu2 hb2 hs1 hk
  go_upto_region 4 with fail
  obtain ⟨W3, kx, hkx, hW3, hu3, hb3⟩ := e2
  rw [hW3, hkx]
  have HU3 := hd (HU2.out.trans hu3)
  have HKX := hd (show w.heap.size ≤ kx by have := HU2.out.size; omega)
  have HP0 := hd (show PSt' w k kx 0 W3 from ⟨_, _, _, _, ⟨[], [], last⟩, [], [], last, by
    have hb := HB2.out.later hu3
    exact ⟨⟨hb.blk, own_mono hb.held HK.out, own_mono hb.waits HK.out, hb.apart⟩, hb3, ⟨.nil, rfl, rfl, List.Pairwise.nil, List.Pairwise.nil, by simp [fsts]⟩, rnil _ _, rnil _ _, HU3.out, fun g hg => by have := (foot_nil k g).1 hg; have := HK.out; omega, HKX.out, HWF.out, by simp [tot], by intro y hy; simp at hy⟩⟩)
  clear hkx hW3 hu3 hb3 HB2 HKF
  go_wp2_with fail
  go_loopw [7, 8, 9, 10, 12, 13, 14, 15, 16, 17, 18] (fun s7 _ _ _ _ _ _ _ _ _ _ wr => ∃ t : Nat, s7 = .int .i64 t ∧ t ≤ acts.length ∧ t ≤ 40 ∧ PSt' w k kx t wr) (fun s7 _ _ _ _ _ _ _ _ _ _ _ => 40 - (intOf s7).toNat)
  case atStart => exact ⟨0, rfl, by omega, by omega, HP0.out⟩
  case round =>
    obtain ⟨t, rfl, hta, ht40, vh, vw, rh, rw', d, lh, lw, lst, hP⟩ := hrel
    have HP := hd hP
    clear hP HP0
    by_cases htn : t < acts.length
    · by_cases ht4 : t < 40
      · have htn' : (t : Int) < (acts.length : Int) := by omega
        have ht4' : (t : Int) < 40 := by omega
        have hfw := HP.out.wf.few
        have hl1 : d.held.length ≤ 1024 := by omega
        have hl2 : d.waits.length ≤ 1024 := by omega
        have HCL := hd (bclone_any wr HP.out.book hl1 hl2)
        clear hfw hl1 hl2
        go_upto_region 9 with fail
        go_wp2_with fail
        refine HCL.out.mono ?_
        rintro e w4 ⟨k', vc, vd, rfl, hu4, hb4, hk4⟩
        have HP4 := hd (HP.out.later hu4)
        have HW4 := hd hu4
        have HB4 := hd hb4
        have HK4 := hd hk4
        obtain ⟨aa', ac', e, -, -, hact⟩ := HA.out.later HP4.out.upd
        simp only [Value.slice.injEq] at e
        obtain ⟨rfl, -, rfl⟩ := e
        obtain ⟨ga, oa, rfl, hac2⟩ := hact (by omega)
        obtain ⟨b1, b2, b3, hga, pa, pc, htx, q0, q1, q2, q3, q4⟩ := hac2 t htn
        have HTX := hd (And.intro htx b3)
        have hxc := HP4.out.blk.cell
        have hxl := HP4.out.blk.lt
        have HDO := hd (fun W (hu : Upd [] w4 W) => do22_any lst acts[t].kind acts[t].ses acts[t].parts acts[t].excl acts[t].wait W (HP4.out.book.later hu) (HD.out.later (HP4.out.upd.trans hu)) HP4.out.wf HP4.out.ses HP4.out.rel (HP4.out.rh.later hu) (HP4.out.rw'.later hu) (htx.upd hu) b3 (fun hm => by have := HP4.out.far _ hm; have := HL.out; omega) (fun hm => by have := HP4.out.far _ hm; have := HL.out; omega) (by have := HP4.out.upd.size; have := hu.size; omega) (by have := HP4.out.few; omega) b1 b2)
        obtain ⟨ra, rc, rfl, -⟩ := own_open HP.out.rh.own
        obtain ⟨sa, sc, rfl, -⟩ := own_open HP.out.rw'.own
        clear hu4 hb4 hk4 htx b1 b2 b3 hact hac2 HCL
        generalize acts[t] = act at *
        generalize act.parts.length = pn at *
        go_upto_region 10 with fail
        go_cut [9, 10] (fun s9 s10 wx => ∃ k9 vh5 vw5 rh5 rw5 d5 lh5 lw5 last5, s9 = .pointer (some ⟨k9, 0, none⟩) ∧ s10 = .bool true ∧ DoneAt w.heap.size k vh vw d w4 wx k9 vh5 vw5 rh5 rw5 d5 lh5 lw5 last5)
        case first =>
          have HNF := hd (HP4.out.book.size w4.heap.size (Nat.le_refl _))
          go_region_with (first
            | ((with_reducible refine (HDO.out _ (((Upd.refl [] w4).alloc _).drew)).mono ?_); rintro r w5 ⟨d5, vh5, vw5, rh5, rw5, lh5, lw5, last5, rfl, hb5, hR5, hh5, hw5, hu5, hf5, hwf5, ht5, hs5⟩; have HB5 := hd hb5; have HR5 := hd hR5; have HH5 := hd hh5; have HWW5 := hd hw5; have HU5 := hd hu5; have HF5 := hd hf5; have HWF5 := hd (And.intro hwf5 (And.intro ht5 hs5)); obtain ⟨i1, j1, rfl, -⟩ := own_open hh5.own; obtain ⟨i2, j2, rfl, -⟩ := own_open hw5.own; have hx9 := (Blk.newd w4 _ _ rfl).upd hu5 HNF.out; have hx9c := hx9.cell; have hx9z := hx9.frozen; have hx9l := hx9.lt; have HX9 := hd hx9; clear hx9 hb5 hR5 hh5 hw5 hu5 hf5 hwf5 ht5 hs5)
            | ((with_reducible refine (HDO.out _ (Upd.refl [] w4).drew).mono ?_); rintro r w5 ⟨d5, vh5, vw5, rh5, rw5, lh5, lw5, last5, rfl, hb5, hR5, hh5, hw5, hu5, hf5, hwf5, ht5, hs5⟩; have HB5 := hd hb5; have HR5 := hd hR5; have HH5 := hd hh5; have HWW5 := hd hw5; have HU5 := hd hu5; have HF5 := hd hf5; have HWF5 := hd (And.intro hwf5 (And.intro ht5 hs5)); obtain ⟨i1, j1, rfl, -⟩ := own_open hh5.own; obtain ⟨i2, j2, rfl, -⟩ := own_open hw5.own; clear hb5 hR5 hh5 hw5 hu5 hf5 hwf5 ht5 hs5)
            | fail "no arm")
          all_goals
            go_wp2_with fail
            go_meet
            case rel =>
              first
                | exact ⟨_, _, _, _, _, _, _, _, _, rfl, rfl, done_a ((Upd.refl [] w4).alloc _).drew HB5.out HR5.out HH5.out HWW5.out HU5.out HF5.out HWF5.out.1 HWF5.out.2.1 HWF5.out.2.2 HX9.out (Nat.le_refl _) (by simp) HNF.out⟩
                | exact ⟨_, _, _, _, _, _, _, _, _, rfl, rfl, done_b (Upd.refl [] w4).drew HB5.out HR5.out HH5.out HWW5.out HU5.out HF5.out HWF5.out.1 HWF5.out.2.1 HWF5.out.2.2⟩
        case rest =>
          obtain ⟨k9, vh5, vw5, rh5, rw5, d5, lh5, lw5, last5, rfl, rfl, hdn⟩ := hcut
          rename World => W5
          have HDN := hd hdn
          clear hdn HDO
          have HU5 := hd (HP4.out.upd.trans' HDN.out.upd (fun i hi => .inr (HP4.out.far i hi)))
          obtain ⟨i1, j1, rfl, -⟩ := own_open HDN.out.hh.own
          obtain ⟨i2, j2, rfl, -⟩ := own_open HDN.out.hw.own
          have hb9 := HDN.out.blk.cell
          have hl9 := HDN.out.blk.lt
          have hbx5 := HP4.out.blk.upd HDN.out.upd HP4.out.kxf
          have HBX5 := hd hbx5
          have hxc5 := hbx5.cell
          have hxl5 := hbx5.lt
          have HI1 := hd (fun W (hu : Upd [] W5 W) => is22_any last5 W (HDN.out.book.later hu) (HD.out.later (HU5.out.trans hu)) HDN.out.wf (HDN.out.hh.later hu) (HDN.out.hw.later hu) (isdoc_of HDN.out.rel) (fun e he => HDN.out.rel.six e.1 (List.mem_append_left _ (List.mem_map.2 ⟨e, he, rfl⟩))))
          have HI2 := hd (fun W (hu : Upd [] W5 W) => is22_any lst W ((book_far HP4.out.book HB4.out (fun i hi => HP.out.book.lt i hi) HK4.out HDN.out.upd).later hu) (HD.out.later (HU5.out.trans hu)) HP4.out.wf ((HP4.out.rh.kept HDN.out.upd (foot_kind HP4.out.book)).later hu) ((HP4.out.rw'.kept HDN.out.upd (foot_kind HP4.out.book)).later hu) (isdoc_of HP4.out.rel) HP4.out.six)
          clear hxc hxl hbx5 q0 q1 q2 q3 q4
          go_wp2_with fail
          refine (HI1.out W5 (Upd.refl [] W5)).mono ?_
          rintro r w6 ⟨rfl, hu6⟩
          have HU6 := hd hu6
          have hb6 := HBX5.out.upd hu6 (by simp)
          have hxc6 := hb6.cell
          have hxl6 := hb6.lt
          have h9c6 := (HDN.out.later hu6).blk.cell
          have h9l6 := (HDN.out.later hu6).blk.lt
          clear hb6 hu6
          go_wp2_with fail
          refine (HI2.out w6 HU6.out).mono ?_
          rintro r w7 ⟨rfl, hu7⟩
          have HDN7 := hd (HDN.out.later (HU6.out.trans hu7))
          have hb7 := HBX5.out.upd (HU6.out.trans hu7) (by simp)
          have hxc7 := hb7.cell
          have hxl7 := hb7.lt
          have hxz7 := hb7.frozen
          have h9c7 := HDN7.out.blk.cell
          have h9l7 := HDN7.out.blk.lt
          have e13 : ∃ W8, (((w7.setCell ⟨kx, 0, none⟩ (.slice i1 lh5.length j1)).setCell ⟨kx, 1, none⟩ (.slice i2 lw5.length j2)).setCell ⟨kx, 2, none⟩ (.int .u64 last5)) = W8 ∧ PSt w k kx (t + 1) W8 vh5 vw5 (.slice i1 lh5.length j1) (.slice i2 lw5.length j2) d5 lh5 lw5 last5 :=
            ⟨_, rfl, HP4.out.next HDN7.out.book HDN7.out.rel HDN7.out.hh HDN7.out.hw HDN7.out.upd HDN7.out.far HDN7.out.wf HDN7.out.few HDN7.out.ses rfl⟩
          clear hb7 hu7 HI1 HI2 hxc6 hxl6 h9c6 h9l6 hxc5 hxl5 hb9 hl9
          go_upto_region 14 with fail
          obtain ⟨W8, hW8, hP8⟩ := e13
          rw [hW8]
          have HP8 := hd hP8
          have hfw := hP8.wf.few
          have hl1 : d5.held.length ≤ 1024 := by omega
          have hl2 : d5.waits.length ≤ 1024 := by omega
          have HHE := hd (held_any W8 hP8.book hl1)
          have HWE := hd (fun W (hu : Upd [] W8 W) => waits_any W (hP8.book.later hu) hl2)
          have HFI := hd (fun (s : Int) (p : List (List UInt8)) W (hu : Upd [] W8 W) => find_any s p W (hP8.book.later hu) hl1 hl2)
          clear hW8 hP8 hfw hl1 hl2 HDN7 HDN HBX5 HP4 HP HB4 HW4 HK4 HTX hxc7 hxl7 hxz7 h9c7 h9l7
          go_wp2_with fail
          refine HHE.out.mono ?_
          rintro r w9 ⟨vs, rfl, hu9, ho9⟩
          have HU9 := hd hu9
          have HL9 := hd (row_lks ho9)
          obtain ⟨b9, m9, rfl, -⟩ := own_open ho9
          clear hu9 ho9 HHE
          go_wp2_with fail
          go_loopw [12, 13, 14, 69] (fun _ _ _ s69 wr => ∃ j : Nat, s69 = .int .i64 j ∧ j ≤ d5.held.length ∧ Upd [] w9 wr) (fun _ _ _ s69 _ => d5.held.length - (intOf s69).toNat)
          case atStart => exact ⟨0, rfl, by omega, Upd.refl _ _⟩
          case round =>
            obtain ⟨j, rfl, hj, hu⟩ := hrel
            rename World => wj
            have HUJ := hd hu
            clear hu
            by_cases hjn : j < d5.held.length
            · have hjn' : (j : Int) < (d5.held.length : Int) := by omega
              obtain ⟨g, rfl, hgl, c0, c1', c2', c3⟩ := lks_get HL9.out HUJ.out j hjn
              have e15 := one_lk wj #[.int .i64 d5.held[j].ses, .string (txt (textL d5.held[j].path)), .bool d5.held[j].excl, .int .u64 d5.held[j].tok] 42
              have HF := hd (fun W (hu : Upd [] W8 W) => HFI.out d5.held[j].ses d5.held[j].path W hu)
              rw [find_held HP8.out.rel (List.getElem_mem hjn)] at HF
              unfold LkS.val at HF
              simp only at HF
              have hwr : IntKind.i64.wrap ((j : Int) + 1) = (j : Int) + 1 := by have := HP8.out.wf.few; rw [IntKind.wrap_i64]; omega
              generalize d5.held[j] = y at *
              go_upto_region 17 with fail
              obtain ⟨Wy, ky, hky, hWy, huy, hby⟩ := e15
              rw [hWy, hky]
              have HUY := hd (HUJ.out.trans huy)
              have HBY := hd hby
              have hyc := hby.cell
              have hyl := hby.lt
              clear hky hWy huy hby c0 c1' c2' c3
              go_wp2_with fail
              refine (HF.out Wy (HU9.out.trans HUY.out)).mono ?_
              rintro r wz ⟨rfl, huz⟩
              have hbz := HBY.out.upd huz (by simp)
              have HUZ := hd (HUY.out.trans huz)
              have HBZ := hd hbz
              have e18 := one_lk wz #[.int .i64 y.ses, .string (txt (textL y.path)), .bool y.excl, .int .u64 y.tok] 42
              clear hyc hyl huz hbz
              go_upto_region 18 with fail
              obtain ⟨Wv, kv, hkv, hWv, huv, hbv⟩ := e18
              rw [hWv, hkv]
              have HUV := hd (HUZ.out.trans huv)
              have hyc := (HBZ.out.upd huv (by simp)).cell
              have hyl := (HBZ.out.upd huv (by simp)).lt
              have hvc := hbv.cell
              have hvl := hbv.lt
              clear hkv hWv huv hbv
              go_wp2_with fail
              go_roundw
              case rel => exact ⟨j + 1, by go_num, by omega, HUV.out⟩
              case measure => simp [intOf]; omega
            · have hjn' : ¬ (j : Int) < (d5.held.length : Int) := by omega
              have HUE := hd (HU9.out.trans HUJ.out)
              clear HL9 HUJ
              go_wp2_with fail
              refine (HWE.out _ HUE.out).mono ?_
              rintro r w19 ⟨vs, rfl, hu19, ho19⟩
              have HU19 := hd (HUE.out.trans hu19)
              have HL19 := hd (row_lks ho19)
              obtain ⟨b19, m19, rfl, -⟩ := own_open ho19
              clear hu19 ho19 HWE
              go_wp2_with fail
              go_loopw [15, 16, 17, 18, 93] (fun _ _ _ _ s93 wr => ∃ j : Nat, s93 = .int .i64 j ∧ j ≤ d5.waits.length ∧ Upd [] w19 wr) (fun _ _ _ _ s93 _ => d5.waits.length - (intOf s93).toNat)
              case atStart => exact ⟨0, rfl, by omega, Upd.refl _ _⟩
              case round =>
                obtain ⟨u, rfl, hu, hup⟩ := hrel
                rename World => wj
                have HUJ := hd hup
                clear hup
                by_cases hun : u < d5.waits.length
                · have hun' : (u : Int) < (d5.waits.length : Int) := by omega
                  obtain ⟨g, rfl, hgl, c0, c1', c2', c3⟩ := lks_get HL19.out HUJ.out u hun
                  have e15 := one_lk wj #[.int .i64 d5.waits[u].ses, .string (txt (textL d5.waits[u].path)), .bool d5.waits[u].excl, .int .u64 d5.waits[u].tok] 42
                  have HF := hd (fun W (hu : Upd [] W8 W) => HFI.out d5.waits[u].ses d5.waits[u].path W hu)
                  rw [find_waits HP8.out.rel u hun] at HF
                  unfold LkS.val at HF
                  simp only at HF
                  have hwr : IntKind.i64.wrap ((u : Int) + 1) = (u : Int) + 1 := by have := HP8.out.wf.few; rw [IntKind.wrap_i64]; omega
                  generalize d5.waits[u] = y at *
                  go_upto_region 24 with fail
                  obtain ⟨Wy, ky, hky, hWy, huy, hby⟩ := e15
                  rw [hWy, hky]
                  have HUY := hd (HUJ.out.trans huy)
                  have HBY := hd hby
                  have hyc := hby.cell
                  have hyl := hby.lt
                  clear hky hWy huy hby c0 c1' c2' c3
                  go_wp2_with fail
                  refine (HF.out Wy (HU19.out.trans HUY.out)).mono ?_
                  rintro r wz ⟨rfl, huz⟩
                  have hbz := HBY.out.upd huz (by simp)
                  have HUZ := hd (HUY.out.trans huz)
                  have HBZ := hd hbz
                  have e18 := one_lk wz #[.int .i64 y.ses, .string (txt (textL y.path)), .bool y.excl, .int .u64 y.tok] 42
                  clear hyc hyl huz hbz
                  go_upto_region 25 with fail
                  obtain ⟨Wv, kv, hkv, hWv, huv, hbv⟩ := e18
                  rw [hWv, hkv]
                  have HUV := hd (HUZ.out.trans huv)
                  have hyc := (HBZ.out.upd huv (by simp)).cell
                  have hyl := (HBZ.out.upd huv (by simp)).lt
                  have hvc := hbv.cell
                  have hvl := hbv.lt
                  clear hkv hWv huv hbv
                  go_wp2_with fail
                  go_roundw
                  case rel => exact ⟨u + 1, by go_num, by omega, HUV.out⟩
                  case measure => simp [intOf]; omega
                · have hun' : ¬ (u : Int) < (d5.waits.length : Int) := by omega
                  have HUE := hd (HU19.out.trans HUJ.out)
                  clear HL19 HUJ
                  go_wp2_with fail
                  go_roundw
                  case rel => exact ⟨t + 1, by go_num, by omega, by omega, _, _, _, _, _, _, _, _, HP8.out.later HUE.out⟩
                  case measure => simp [intOf]; omega
      · have htn' : (t : Int) < (acts.length : Int) := by omega
        have ht4' : ¬ (t : Int) < 40 := by omega
        have HFI := hd (find_any 99 [] wr HP.out.book (by have := HP.out.wf.few; omega) (by have := HP.out.wf.few; omega))
        have hfn := find_none (d := d) (s := 99) (p := []) (fun y hy => by have := HP.out.ses y hy; omega)
        rw [hfn] at HFI
        have tx0 : txt (textL []) = ⟨#[]⟩ := rfl
        rw [tx0] at HFI
        go_wp2_with fail
        refine HFI.out.mono ?_
        rintro r w4 ⟨rfl, hu4⟩
        unfold LkS.val
        have HE := hd (HP.out.upd.trans hu4)
        have e5 := one_lk w4 #[.int .i64 (findB d ⟨99, [], false, 0⟩).1.ses, .string (txt (textL (findB d ⟨99, [], false, 0⟩).1.path)), .bool (findB d ⟨99, [], false, 0⟩).1.excl, .int .u64 (findB d ⟨99, [], false, 0⟩).1.tok] 42
        clear hu4 hfn HFI
        generalize (findB d ⟨99, [], false, 0⟩).1 = y at *
        go_upto_region 29 with fail
        obtain ⟨W5, k5, hk5, hW5, hu5, hb5⟩ := e5
        rw [hW5, hk5]
        have HU5 := hd (HE.out.trans hu5)
        clear hk5 hW5 hu5 hb5
        go_wp2_with fail
        go_ret
        exact ⟨rfl, HU5.out⟩
    · have htn' : ¬ (t : Int) < (acts.length : Int) := by omega
      have HFI := hd (find_any 99 [] wr HP.out.book (by have := HP.out.wf.few; omega) (by have := HP.out.wf.few; omega))
      have hfn := find_none (d := d) (s := 99) (p := []) (fun y hy => by have := HP.out.ses y hy; omega)
      rw [hfn] at HFI
      have tx0 : txt (textL []) = ⟨#[]⟩ := rfl
      rw [tx0] at HFI
      go_wp2_with fail
      refine HFI.out.mono ?_
      rintro r w4 ⟨rfl, hu4⟩
      unfold LkS.val
      have HE := hd (HP.out.upd.trans hu4)
      have e5 := one_lk w4 #[.int .i64 (findB d ⟨99, [], false, 0⟩).1.ses, .string (txt (textL (findB d ⟨99, [], false, 0⟩).1.path)), .bool (findB d ⟨99, [], false, 0⟩).1.excl, .int .u64 (findB d ⟨99, [], false, 0⟩).1.tok] 42
      clear hu4 hfn HFI
      generalize (findB d ⟨99, [], false, 0⟩).1 = y at *
      go_upto_region 29 with fail
      obtain ⟨W5, k5, hk5, hW5, hu5, hb5⟩ := e5
      rw [hW5, hk5]
      have HU5 := hd (HE.out.trans hu5)
      clear hk5 hW5 hu5 hb5
      go_wp2_with fail
      go_ret
      exact ⟨rfl, HU5.out⟩
end Go.Proofs.YtpniggmdokkkcaaGreatDoor
