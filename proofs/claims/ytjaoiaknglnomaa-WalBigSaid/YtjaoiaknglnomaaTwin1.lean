/-
  twin.spell and twin.parse, walked. Conditions: texts of sizes that there are.
-/
import Derived.Test.YtjaoiaknglnomaaSeal3
import Derived.Deep.Cut
import Derived.Deep.CutRange
import Derived.Deep.CutBlock
set_option linter.unusedVariables false
set_option linter.unusedSimpArgs false
set_option maxRecDepth 100000
namespace Go.Proofs.Ytjaoiaknglnomaa
open Go.RowKit

/-- A file's bytes. -/
def spellL (v : Nat) (s : List UInt8) : List UInt8 := frameL 1 (uBytes v ++ (nBytes s.length ++ s))
theorem sBytes_txt (s : List UInt8) : sBytes (txt s) = nBytes s.length ++ s := by
  unfold sBytes
  rw [txt_size]
  simp [txt]

theorem own_base_le {w : World} {B T sz : Nat} {v : Value} {n : Nat} {xs : List Value} (h : w.ownsRow B T sz v n xs) : ∀ g, v.ownBlock = some g → B ≤ g := by
  intro g hg
  rcases h.2 with ⟨rfl, _⟩ | ⟨g', cap, cur, rfl, hB, _⟩
  · simp [Value.ownBlock] at hg
  · have : g' = g := by simpa [Value.ownBlock] using hg
    omega
set_option maxHeartbeats 2000000 in
theorem spell_any (v : Nat) (s : List UInt8) (w : World) (hv : v < 18446744073709551616) (hs : s.length ≤ 1000000) :
    Calls Try.prog 74 #[.int .u64 v, .string (txt s)] w fun x w' => x = .returned (.string (txt (spellL v s))) ∧ Upd [] w w' := by
  have hnl := nBytes_le (s.length : Int)
  have hul := uBytes_le v
  have HSP := hd (show spellL v s = frameL 1 (uBytes v ++ (nBytes s.length ++ s)) from rfl)
  have HV := hd hv
  have e2 : ∃ W, (w.alloc (.cells #[.slice none 0 0] 154)).alloc (.cells #[.int .u64 v] 52) = W ∧ Upd [] w W ∧ WrAt w.heap.size W w.heap.size (.slice none 0 0) [] ∧ Blk W (w.heap.size + 1) #[.int .u64 v] 52 ∧ w.heap.size < W.heap.size :=
    ⟨_, rfl, ((Upd.refl _ _).alloc _).alloc _, ⟨(Blk.new _ _ _).alloc _, World.ownsRow_nil _ _ _ _⟩, Blk.new' _ _ _ (by simp), by simp; omega⟩
  clear hv
  go_enter Try.func74, Try.ntmps74
  go_wp2_with fail
  obtain ⟨W, hW, hu, hwr, hb, hlt⟩ := e2
  rw [hW]
  clear hW
  refine (U_any w.heap.size w.heap.size (w.heap.size + 1) [v] _ [] W hwr (by simpa using hb) (by intro x hx; simp at hx; rw [hx]; exact HV.out) (by simp) (by omega)).mono ?_
  rintro x w1 ⟨rfl, v1, hw1, hup1⟩
  have HU1 := hd (show Upd [] w w1 from hu.trans' hup1.upd (fun i hi => by
    rcases List.mem_cons.1 hi with h | h
    · exact .inr (by omega)
    · simp [Value.ownBlock] at h))
  have hw1' : WrAt w.heap.size w1 w.heap.size v1 (uBytes v) := by simpa using hw1
  have HW1 := hd hw1'
  have hs1 := HU1.out.size
  have hlt1 := hw1'.blk.lt
  clear hu hwr hb hw1 hw1' hup1 hlt
  have hst := Blk.new w1 #[.string (txt s)] 9
  have HW2 := hd (show WrAt w.heap.size (w1.alloc (.cells #[.string (txt s)] 9)) w.heap.size v1 (uBytes v) from ⟨HW1.out.blk.alloc _, own_upd (L := []) HW1.out.own ((Upd.refl _ _).alloc _) (by simp)⟩)
  have HU2 := hd (HU1.out.alloc (.cells #[.string (txt s)] 9))
  have HST := hd hst
  clear hst
  go_wp2_with fail
  refine (S_any w.heap.size w.heap.size w1.heap.size [txt s] v1 (uBytes v) _ HW2.out (by simpa using HST.out) (by simp [sBytes_txt]; omega) (by simp; omega)).mono ?_
  rintro x w3 ⟨rfl, v3, hw3, hup3⟩
  have HU3 := hd (show Upd [] w w3 from HU2.out.trans' hup3.upd (fun i hi => by
    rcases List.mem_cons.1 hi with h | h
    · exact .inr (by omega)
    · exact .inr (own_base_le HW1.out.own i (by simpa using h))))
  have hw3' : WrAt w.heap.size w3 w.heap.size v3 (uBytes v ++ (nBytes s.length ++ s)) := by
    have e : [txt s].flatMap sBytes = nBytes s.length ++ s := by simp [sBytes_txt]
    rw [e] at hw3
    exact hw3
  have HW3 := hd hw3'
  clear hw3 hw3' hup3
  have hln : (uBytes v ++ (nBytes s.length ++ s)).length ≤ 1048576 := by simp only [List.length_append]; omega
  generalize uBytes v ++ (nBytes s.length ++ s) = L at *
  go_wp2_with fail
  refine (Text_any w.heap.size w.heap.size v3 L w3 HW3.out).mono ?_
  rintro x w4 ⟨rfl, rfl⟩
  have HF := hd (frame_any L w4 hln)
  rw [show txt L = ⟨L.toArray⟩ from rfl] at HF
  go_wp2_with fail
  refine HF.out.mono ?_
  rintro x w5 ⟨rfl, hu5⟩
  go_wp2_with fail
  go_ret
  rw [HSP.out]
  exact ⟨rfl, HU3.out.trans hu5⟩

/-- What a file has. -/
structure HalfS where
  version : Nat
  text : List UInt8
  bad : Bool
deriving DecidableEq
def HalfS.val (h : HalfS) : Value := .agg #[.int .u64 h.version, .string (txt h.text), .bool h.bad]
def parseL (s : List UInt8) : HalfS :=
  if s = [] then ⟨0, [], false⟩
  else
    let u := RdS.U ⟨(openL s).2.1, 0⟩
    let t := u.2.S 524288
    if (openL s).2.2 = 0 ∧ (openL s).1 = 1 ∧ (openL s).2.1.length + 8 = s.length ∧ t.2.done.err = 0 ∧ u.1 ≠ 0 then ⟨u.1, t.1, false⟩ else ⟨0, [], true⟩

theorem openL_len (s : List UInt8) : (openL s).2.1.length ≤ s.length := by
  unfold openL
  dsimp only
  (repeat' split) <;> simp only [List.length_nil, List.length_take, List.length_drop] <;> omega
theorem set3 {w : World} {k T : Nat} {a0 a1 a2 : Value} (h : Blk w k #[a0, a1, a2] T) (v0 v1 v2 : Value) :
    ∃ W, (((w.setCell ⟨k, 0, none⟩ v0).setCell ⟨k, 1, none⟩ v1).setCell ⟨k, 2, none⟩ v2) = W ∧ Upd [k] w W ∧ Blk W k #[v0, v1, v2] T := by
  have h0 : Blk _ k #[v0, a1, a2] T := h.set 0 v0
  have h1 : Blk _ k #[v0, v1, a2] T := h0.set 1 v1
  have h2 : Blk _ k #[v0, v1, v2] T := h1.set 2 v2
  have hx := Upd.refl [k] w
  exact ⟨_, rfl, (by repeat (first | with_reducible exact hx | with_reducible exact Upd.refl _ _ | with_reducible refine Upd.alloc ?_ _ | with_reducible refine Upd.drew ?_ | with_reducible refine Upd.setCell ?_ (by first | (simp; done) | (simp; omega)) _)), h2⟩

set_option maxHeartbeats 4000000 in
theorem parse_any (s : List UInt8) (w : World) (hs : s.length ≤ 1099511627776) :
    Calls Try.prog 73 #[.string (txt s)] w fun x w' => x = .returned (.agg #[.int .u64 (parseL s).version, .string (txt (parseL s).text), .bool (parseL s).bad]) ∧ Upd [] w w' := by
  have hz := Blk.new w #[.int .u64 0, .string ⟨#[]⟩, .bool false] 103
  have hu := (Upd.refl [] w).alloc (.cells #[.int .u64 0, .string ⟨#[]⟩, .bool false] 103)
  have HPL := hd (show parseL s = if s = [] then ⟨0, [], false⟩ else if (openL s).2.2 = 0 ∧ (openL s).1 = 1 ∧ (openL s).2.1.length + 8 = s.length ∧ ((RdS.U ⟨(openL s).2.1, 0⟩).2.S 524288).2.done.err = 0 ∧ (RdS.U ⟨(openL s).2.1, 0⟩).1 ≠ 0 then ⟨(RdS.U ⟨(openL s).2.1, 0⟩).1, ((RdS.U ⟨(openL s).2.1, 0⟩).2.S 524288).1, false⟩ else ⟨0, [], true⟩ from rfl)
  by_cases h0 : s = []
  · have ht : (txt s).toList = [] := by rw [txt_list]; exact h0
    have HP := hd (show parseL s = ⟨0, [], false⟩ by rw [HPL.out, if_pos h0])
    clear h0
    go_enter Try.func73, Try.ntmps73
    go_upto_region 1 with fail
    generalize w.alloc (.cells #[.int .u64 0, .string ⟨#[]⟩, .bool false] 103) = W at *
    have hzc := hz.cell
    have hzz := hz.frozen
    obtain ⟨W8, e8, u8, b8⟩ := set3 hz (.int .u64 0) (.string ⟨#[]⟩) (.bool false)
    have HE := hd e8
    have HU := hd (hu.trans' u8 (by intro i hi; simp at hi; omega))
    have HB := hd b8
    clear e8 u8 b8 hz hu
    go_wp2_with fail
    rw [HE.out]
    have hbc := HB.out.cell
    refine bodyPost_ret (v := .agg #[.int .u64 0, .string ⟨#[]⟩, .bool false]) (by simp [results, Try.results73, go_sem, hbc]) rfl ?_
    rw [HP.out]
    exact ⟨rfl, HU.out⟩
  · have ht : ¬ (txt s).toList = [] := by rw [txt_list]; exact h0
    have ht' : (!(txt s).toList.isEmpty) = true := by simpa using ht
    have hte : (txt s).toList.isEmpty = false := by simpa using ht
    have HN := hd h0
    have hol := openL_len s
    have HOP := hd (fun W => open_any s W hs)
    have hul := U_left ⟨(openL s).2.1, 0⟩
    simp only at hul
    have hU := fun k W (h : RdAt W k ⟨(openL s).2.1, 0⟩) => U_rd ⟨(openL s).2.1, 0⟩ k W h (by simp only; omega)
    have hS := fun k W (h : RdAt W k (RdS.U ⟨(openL s).2.1, 0⟩).2) => S_rd (RdS.U ⟨(openL s).2.1, 0⟩).2 524288 k W h (by omega) (by omega) (by omega)
    have hD := fun k W (h : RdAt W k ((RdS.U ⟨(openL s).2.1, 0⟩).2.S 524288).2) => done_rd ((RdS.U ⟨(openL s).2.1, 0⟩).2.S 524288).2 k W h
    have hult := U_lt ⟨(openL s).2.1, 0⟩
    have HPU := hd hU
    have HPS := hd hS
    have HPD := hd hD
    clear hU hS hD h0 hul
    generalize (RdS.U ⟨(openL s).2.1, 0⟩).2.S 524288 = T at *
    obtain ⟨tt, r3⟩ := T
    generalize hUU : RdS.U ⟨(openL s).2.1, 0⟩ = U at *
    have HUU := hd hUU
    clear hUU
    obtain ⟨uv, r2⟩ := U
    generalize openL s = O at *
    obtain ⟨kd, inn, er⟩ := O
    simp only at HPL HOP HPU HPS HPD hol hult
    have hk256 : kd.toNat < 256 := kd.toNat_lt
    go_enter Try.func73, Try.ntmps73
    go_upto_region 1 with fail
    generalize hWz : w.alloc (.cells #[.int .u64 0, .string ⟨#[]⟩, .bool false] 103) = W at *
    have HZ := hd hz
    have HU0 := hd hu
    clear hz hu hWz
    go_wp2_with fail
    refine (HOP.out W).mono ?_
    rintro x w1 ⟨rfl, hu1⟩
    have HU1 := hd (HU0.out.trans hu1)
    have HZ1 := hd (HZ.out.upd hu1 (by simp))
    clear hu1 HZ HU0
    go_wp2_with fail
    refine (read_new inn w1).mono ?_
    rintro x w2 ⟨rfl, hu2, hr2, hlt2⟩
    obtain ⟨kr, hkr⟩ : ∃ kr, kr = w1.heap.size := ⟨_, rfl⟩
    rw [← hkr] at hr2 hlt2 ⊢
    have hzr : w.heap.size < kr := by have := HZ1.out.lt; omega
    have HU2 := hd (HU1.out.trans hu2)
    have HZ2 := hd (HZ1.out.upd hu2 (by simp))
    have HR2 := hd hr2
    clear hkr hu2 hr2 HU1 HZ1
    go_wp2_with fail
    refine (HPU.out kr w2 HR2.out).mono ?_
    rintro x w3 ⟨rfl, hu3, hr3⟩
    have HU3 := hd (HU2.out.trans' hu3 (by intro i hi; simp at hi; omega))
    have HZ3 := hd (HZ2.out.upd hu3 (by simp; omega))
    have HR3 := hd hr3
    have hlt3 := hr3.lt
    have HH4 := hd (Blk.new w3 #[.int .u64 uv, .string ⟨#[]⟩, .bool false] 103)
    have HU4 := hd (HU3.out.alloc (.cells #[.int .u64 uv, .string ⟨#[]⟩, .bool false] 103))
    have HZ4 := hd (HZ3.out.alloc (.cells #[.int .u64 uv, .string ⟨#[]⟩, .bool false] 103))
    have HR4 := hd (HR3.out.alloc (.cells #[.int .u64 uv, .string ⟨#[]⟩, .bool false] 103))
    clear hu3 hr3 HU2 HZ2 HR2 HU3 HZ3 HR3
    go_upto_region 6 with fail
    generalize hW4 : w3.alloc (.cells #[.int .u64 uv, .string ⟨#[]⟩, .bool false] 103) = w4 at *
    obtain ⟨kh, hkh⟩ : ∃ kh, kh = w3.heap.size := ⟨_, rfl⟩
    rw [← hkh] at HH4 ⊢
    have hrh : kr < kh := by omega
    clear hW4 hkh
    go_wp2_with fail
    refine (HPS.out kr w4 HR4.out).mono ?_
    rintro x w5 ⟨rfl, hu5, hr5⟩
    have hh5 := HH4.out.upd hu5 (by simp; omega)
    have hhc := hh5.cell
    have hhz := hh5.frozen
    have HH6 := hd (hh5.set 1 (.string (txt tt)))
    have HU6 := hd (HU4.out.trans' (hu5.mono (M := [kr, kh]) (by simp)) (by intro i hi; simp at hi; omega))
    have HX6 := hd ((Upd.refl [kh] w5).setCell (p := ⟨kh, 1, none⟩) (by simp) (.string (txt tt)))
    have HZ6 := hd ((HZ4.out.upd hu5 (by simp; omega)).upd HX6.out (by simp; omega))
    have HR6 := hd (Blk.upd hr5 HX6.out (by simp; omega))
    have HV6 := hd (HU6.out.trans' HX6.out (by intro i hi; simp at hi; omega))
    clear hu5 hr5 hh5 HH4 HU4 HZ4 HR4
    go_upto_region 7 with fail
    generalize w5.setCell ⟨kh, 1, none⟩ (.string (txt tt)) = w6 at *
    have hh6 : Blk w6 kh #[.int .u64 uv, .string (txt tt), .bool false] 103 := HH6.out
    clear hhc hhz
    have hhc := hh6.cell
    have hzc := HZ6.out.cell
    have hzz := HZ6.out.frozen
    by_cases c1 : er = 0
    · have c1' : (er != 0) = false := by simp [c1]
      have C1 := hd c1
      clear c1
      by_cases c2 : kd = 1
      · have c2' : ((kd.toNat : Int) != 1) = false := by rw [c2]; rfl
        have C2 := hd c2
        clear c2
        by_cases c3 : inn.length + 8 = s.length
        · have c3' : ((inn.length : Int) + 8 != (s.length : Int)) = false := by simp; omega
          have C3 := hd c3
          have hwi : IntKind.i64.wrap ((inn.length : Int) + 8) = inn.length + 8 := by rw [IntKind.wrap_i64]; omega
          clear c3
          go_wp2_with fail
          refine (HPD.out kr w6 HR6.out).mono ?_
          rintro x w7 ⟨rfl, hu7, hr7⟩
          have HZ7 := hd (HZ6.out.upd hu7 (by simp; omega))
          have hh7 := hh6.upd hu7 (by simp; omega)
          have HV7 := hd (HV6.out.trans' hu7 (by intro i hi; simp at hi; omega))
          have hhc := hh7.cell
          have hzc := HZ7.out.cell
          have hzz := HZ7.out.frozen
          clear hu7 hr7
          by_cases c4 : r3.done.err = 0
          · have c4' : (r3.done.err != 0) = false := by simp [c4]
            have C4 := hd c4
            clear c4
            by_cases c5 : uv = 0
            · have c5' : ((uv : Int) == 0) = true := by simp [c5]
              have C5 := hd c5
              clear c5
              have HP := hd (show parseL s = ⟨0, [], true⟩ by rw [HPL.out, if_neg HN.out, if_neg (fun h => h.2.2.2.2 C5.out)])
              obtain ⟨W8, e8, u8, b8⟩ := set3 HZ7.out (.int .u64 0) (.string ⟨#[]⟩) (.bool true)
              have HE := hd e8
              have HUF := hd (HV7.out.trans' u8 (by intro i hi; simp at hi; omega))
              have HB := hd b8
              clear e8 u8 b8
              go_wp2_with fail
              rw [HE.out]
              have hbc := HB.out.cell
              refine bodyPost_ret (v := .agg #[(.int .u64 0), (.string ⟨#[]⟩), (.bool true)]) (by simp [results, Try.results73, go_sem, hbc]) rfl ?_
              rw [HP.out]
              exact ⟨rfl, HUF.out⟩
            · have c5' : ((uv : Int) == 0) = false := by simp; omega
              have C5 := hd c5
              clear c5
              have HP := hd (show parseL s = ⟨uv, tt, false⟩ by rw [HPL.out, if_neg HN.out, if_pos ⟨C1.out, C2.out, C3.out, C4.out, C5.out⟩])
              obtain ⟨W8, e8, u8, b8⟩ := set3 HZ7.out (.int .u64 uv) (.string (txt tt)) (.bool false)
              have HE := hd e8
              have HUF := hd (HV7.out.trans' u8 (by intro i hi; simp at hi; omega))
              have HB := hd b8
              clear e8 u8 b8
              go_wp2_with fail
              rw [HE.out]
              have hbc := HB.out.cell
              refine bodyPost_ret (v := .agg #[(.int .u64 uv), (.string (txt tt)), (.bool false)]) (by simp [results, Try.results73, go_sem, hbc]) rfl ?_
              rw [HP.out]
              exact ⟨rfl, HUF.out⟩
          · have c4' : (r3.done.err != 0) = true := by simpa using c4
            have C4 := hd c4
            clear c4
            have HP := hd (show parseL s = ⟨0, [], true⟩ by rw [HPL.out, if_neg HN.out, if_neg (fun h => C4.out h.2.2.2.1)])
            obtain ⟨W8, e8, u8, b8⟩ := set3 HZ7.out (.int .u64 0) (.string ⟨#[]⟩) (.bool true)
            have HE := hd e8
            have HUF := hd (HV7.out.trans' u8 (by intro i hi; simp at hi; omega))
            have HB := hd b8
            clear e8 u8 b8
            go_wp2_with fail
            rw [HE.out]
            have hbc := HB.out.cell
            refine bodyPost_ret (v := .agg #[(.int .u64 0), (.string ⟨#[]⟩), (.bool true)]) (by simp [results, Try.results73, go_sem, hbc]) rfl ?_
            rw [HP.out]
            exact ⟨rfl, HUF.out⟩
        · have c3' : ((inn.length : Int) + 8 != (s.length : Int)) = true := by simp; omega
          have C3 := hd c3
          have hwi : IntKind.i64.wrap ((inn.length : Int) + 8) = inn.length + 8 := by rw [IntKind.wrap_i64]; omega
          clear c3
          have HP := hd (show parseL s = ⟨0, [], true⟩ by rw [HPL.out, if_neg HN.out, if_neg (fun h => C3.out h.2.2.1)])
          obtain ⟨W8, e8, u8, b8⟩ := set3 HZ6.out (.int .u64 0) (.string ⟨#[]⟩) (.bool true)
          have HE := hd e8
          have HUF := hd (HV6.out.trans' u8 (by intro i hi; simp at hi; omega))
          have HB := hd b8
          clear e8 u8 b8
          go_wp2_with fail
          rw [HE.out]
          have hbc := HB.out.cell
          refine bodyPost_ret (v := .agg #[(.int .u64 0), (.string ⟨#[]⟩), (.bool true)]) (by simp [results, Try.results73, go_sem, hbc]) rfl ?_
          rw [HP.out]
          exact ⟨rfl, HUF.out⟩
      · have c2' : ((kd.toNat : Int) != 1) = true := by
          simp only [bne_iff_ne, ne_eq]
          intro e
          exact c2 (UInt8.toNat_inj.1 (show kd.toNat = 1 by omega))
        have C2 := hd c2
        clear c2
        have HP := hd (show parseL s = ⟨0, [], true⟩ by rw [HPL.out, if_neg HN.out, if_neg (fun h => C2.out h.2.1)])
        obtain ⟨W8, e8, u8, b8⟩ := set3 HZ6.out (.int .u64 0) (.string ⟨#[]⟩) (.bool true)
        have HE := hd e8
        have HUF := hd (HV6.out.trans' u8 (by intro i hi; simp at hi; omega))
        have HB := hd b8
        clear e8 u8 b8
        go_wp2_with fail
        rw [HE.out]
        have hbc := HB.out.cell
        refine bodyPost_ret (v := .agg #[(.int .u64 0), (.string ⟨#[]⟩), (.bool true)]) (by simp [results, Try.results73, go_sem, hbc]) rfl ?_
        rw [HP.out]
        exact ⟨rfl, HUF.out⟩
    · have c1' : (er != 0) = true := by simpa using c1
      have C1 := hd c1
      clear c1
      have HP := hd (show parseL s = ⟨0, [], true⟩ by rw [HPL.out, if_neg HN.out, if_neg (fun h => C1.out h.1)])
      obtain ⟨W8, e8, u8, b8⟩ := set3 HZ6.out (.int .u64 0) (.string ⟨#[]⟩) (.bool true)
      have HE := hd e8
      have HUF := hd (HV6.out.trans' u8 (by intro i hi; simp at hi; omega))
      have HB := hd b8
      clear e8 u8 b8
      go_wp2_with fail
      rw [HE.out]
      have hbc := HB.out.cell
      refine bodyPost_ret (v := .agg #[(.int .u64 0), (.string ⟨#[]⟩), (.bool true)]) (by simp [results, Try.results73, go_sem, hbc]) rfl ?_
      rw [HP.out]
      exact ⟨rfl, HUF.out⟩
end Go.Proofs.Ytjaoiaknglnomaa
