/-
  twin.spell and twin.parse, walked. Conditions: texts of sizes that there are.
-/
import Derived.Test.YtjaoiaknglnomaaWm3
import Derived.Deep.Cut
import Derived.Deep.CutRange
import Derived.Deep.CutBlock
import Derived.Test.YtjaoiaknglnomaaRows
import Derived.Test.YtjaoiaknglnomaaWm0
set_option linter.unusedVariables false
set_option linter.unusedSimpArgs false
set_option maxRecDepth 100000
namespace Go.Proofs.Ytjaoiaknglnomaa
open Go.RowKit

/-- A file's bytes. -/
def spellL (v : Nat) (s : List UInt8) : List UInt8 := frameL 1 (uBytes v ++ (nBytes s.length ++ s))
theorem sBytes_txt (s : List UInt8) : sBytes (txt s) = nBytes s.length ++ s := by
  unfold sBytes
  rw [txt_size]
  simp [txt]

theorem own_base_le {w : World} {B T sz : Nat} {v : Value} {n : Nat} {xs : List Value} (h : w.ownsRow B T sz v n xs) : ∀ g, v.ownBlock = some g → B ≤ g := by
  intro g hg
  rcases h.2 with ⟨rfl, _⟩ | ⟨g', cap, cur, rfl, hB, _⟩
  · simp [Value.ownBlock] at hg
  · have : g' = g := by simpa [Value.ownBlock] using hg
    omega
set_option maxHeartbeats 2000000 in
theorem spell_any (v : Nat) (s : List UInt8) (w : World) (hv : v < 18446744073709551616) (hs : s.length ≤ 1000000) :
    Calls Try.prog 74 #[.int .u64 v, .string (txt s)] w fun x w' => x = .returned (.string (txt (spellL v s))) ∧ Upd [] w w' := by
  have hnl := nBytes_le (s.length : Int)
  have hul := uBytes_le v
  have HSP := hd (show spellL v s = frameL 1 (uBytes v ++ (nBytes s.length ++ s)) from rfl)
  have HV := hd hv
  have e2 : ∃ W, (w.alloc (.cells #[.slice none 0 0] 154)).alloc (.cells #[.int .u64 v] 52) = W ∧ Upd [] w W ∧ WrAt w.heap.size W w.heap.size (.slice none 0 0) [] ∧ Blk W (w.heap.size + 1) #[.int .u64 v] 52 ∧ w.heap.size < W.heap.size :=
    ⟨_, rfl, ((Upd.refl _ _).alloc _).alloc _, ⟨(Blk.new _ _ _).alloc _, World.ownsRow_nil _ _ _ _⟩, Blk.new' _ _ _ (by simp), by simp; omega⟩
  clear hv
  go_enter Try.func74, Try.ntmps74
  go_wp2_with fail
  obtain ⟨W, hW, hu, hwr, hb, hlt⟩ := e2
  rw [hW]
  clear hW
  refine (U_any w.heap.size w.heap.size (w.heap.size + 1) [v] _ [] W hwr (by simpa using hb) (by intro x hx; simp at hx; rw [hx]; exact HV.out) (by simp) (by omega)).mono ?_
  rintro x w1 ⟨rfl, v1, hw1, hup1⟩
  have HU1 := hd (show Upd [] w w1 from hu.trans' hup1.upd (fun i hi => by
    rcases List.mem_cons.1 hi with h | h
    · exact .inr (by omega)
    · simp [Value.ownBlock] at h))
  have hw1' : WrAt w.heap.size w1 w.heap.size v1 (uBytes v) := by simpa using hw1
  have HW1 := hd hw1'
  have hs1 := HU1.out.size
  have hlt1 := hw1'.blk.lt
  clear hu hwr hb hw1 hw1' hup1 hlt
  have hst := Blk.new w1 #[.string (txt s)] 9
  have HW2 := hd (show WrAt w.heap.size (w1.alloc (.cells #[.string (txt s)] 9)) w.heap.size v1 (uBytes v) from ⟨HW1.out.blk.alloc _, own_upd (L := []) HW1.out.own ((Upd.refl _ _).alloc _) (by simp)⟩)
  have HU2 := hd (HU1.out.alloc (.cells #[.string (txt s)] 9))
  have HST := hd hst
  clear hst
  go_wp2_with fail
  refine (S_any w.heap.size w.heap.size w1.heap.size [txt s] v1 (uBytes v) _ HW2.out (by simpa using HST.out) (by simp [sBytes_txt]; omega) (by simp; omega)).mono ?_
  rintro x w3 ⟨rfl, v3, hw3, hup3⟩
  have HU3 := hd (show Upd [] w w3 from HU2.out.trans' hup3.upd (fun i hi => by
    rcases List.mem_cons.1 hi with h | h
    · exact .inr (by omega)
    · exact .inr (own_base_le HW1.out.own i (by simpa using h))))
  have hw3' : WrAt w.heap.size w3 w.heap.size v3 (uBytes v ++ (nBytes s.length ++ s)) := by
    have e : [txt s].flatMap sBytes = nBytes s.length ++ s := by simp [sBytes_txt]
    rw [e] at hw3
    exact hw3
  have HW3 := hd hw3'
  clear hw3 hw3' hup3
  have hln : (uBytes v ++ (nBytes s.length ++ s)).length ≤ 1048576 := by simp only [List.length_append]; omega
  generalize uBytes v ++ (nBytes s.length ++ s) = L at *
  go_wp2_with fail
  refine (Text_any w.heap.size w.heap.size v3 L w3 HW3.out).mono ?_
  rintro x w4 ⟨rfl, rfl⟩
  have HF := hd (frame_any L w4 hln)
  rw [show txt L = ⟨L.toArray⟩ from rfl] at HF
  go_wp2_with fail
  refine HF.out.mono ?_
  rintro x w5 ⟨rfl, hu5⟩
  go_wp2_with fail
  go_ret
  rw [HSP.out]
  exact ⟨rfl, HU3.out.trans hu5⟩

/-- What a file has. -/
structure HalfS where
  version : Nat
  text : List UInt8
  bad : Bool
deriving DecidableEq
def HalfS.val (h : HalfS) : Value := .agg #[.int .u64 h.version, .string (txt h.text), .bool h.bad]
def parseL (s : List UInt8) : HalfS :=
  if s = [] then ⟨0, [], false⟩
  else
    let u := RdS.U ⟨(openL s).2.1, 0⟩
    let t := u.2.S 524288
    if (openL s).2.2 = 0 ∧ (openL s).1 = 1 ∧ (openL s).2.1.length + 8 = s.length ∧ t.2.done.err = 0 ∧ u.1 ≠ 0 then ⟨u.1, t.1, false⟩ else ⟨0, [], true⟩

theorem openL_len (s : List UInt8) : (openL s).2.1.length ≤ s.length := by
  unfold openL
  dsimp only
  (repeat' split) <;> simp only [List.length_nil, List.length_take, List.length_drop] <;> omega
theorem set3 {w : World} {k T : Nat} {a0 a1 a2 : Value} (h : Blk w k #[a0, a1, a2] T) (v0 v1 v2 : Value) :
    ∃ W, (((w.setCell ⟨k, 0, none⟩ v0).setCell ⟨k, 1, none⟩ v1).setCell ⟨k, 2, none⟩ v2) = W ∧ Upd [k] w W ∧ Blk W k #[v0, v1, v2] T := by
  have h0 : Blk _ k #[v0, a1, a2] T := h.set 0 v0
  have h1 : Blk _ k #[v0, v1, a2] T := h0.set 1 v1
  have h2 : Blk _ k #[v0, v1, v2] T := h1.set 2 v2
  have hx := Upd.refl [k] w
  exact ⟨_, rfl, (by repeat (first | with_reducible exact hx | with_reducible exact Upd.refl _ _ | with_reducible refine Upd.alloc ?_ _ | with_reducible refine Upd.drew ?_ | with_reducible refine Upd.setCell ?_ (by first | (simp; done) | (simp; omega)) _)), h2⟩

set_option maxHeartbeats 4000000 in
theorem parse_any (s : List UInt8) (w : World) (hs : s.length ≤ 1099511627776) :
    Calls Try.prog 73 #[.string (txt s)] w fun x w' => x = .returned (.agg #[.int .u64 (parseL s).version, .string (txt (parseL s).text), .bool (parseL s).bad]) ∧ Upd [] w w' := by
  have hz := Blk.new w #[.int .u64 0, .string ⟨#[]⟩, .bool false] 103
  have hu := (Upd.refl [] w).alloc (.cells #[.int .u64 0, .string ⟨#[]⟩, .bool false] 103)
  have HPL := hd (show parseL s = if s = [] then ⟨0, [], false⟩ else if (openL s).2.2 = 0 ∧ (openL s).1 = 1 ∧ (openL s).2.1.length + 8 = s.length ∧ ((RdS.U ⟨(openL s).2.1, 0⟩).2.S 524288).2.done.err = 0 ∧ (RdS.U ⟨(openL s).2.1, 0⟩).1 ≠ 0 then ⟨(RdS.U ⟨(openL s).2.1, 0⟩).1, ((RdS.U ⟨(openL s).2.1, 0⟩).2.S 524288).1, false⟩ else ⟨0, [], true⟩ from rfl)
  by_cases h0 : s = []
  · have ht : (txt s).toList = [] := by rw [txt_list]; exact h0
    have HP := hd (show parseL s = ⟨0, [], false⟩ by rw [HPL.out, if_pos h0])
    clear h0
    go_enter Try.func73, Try.ntmps73
    go_upto_region 1 with fail
    generalize w.alloc (.cells #[.int .u64 0, .string ⟨#[]⟩, .bool false] 103) = W at *
    have hzc := hz.cell
    have hzz := hz.frozen
    obtain ⟨W8, e8, u8, b8⟩ := set3 hz (.int .u64 0) (.string ⟨#[]⟩) (.bool false)
    have HE := hd e8
    have HU := hd (hu.trans' u8 (by intro i hi; simp at hi; omega))
    have HB := hd b8
    clear e8 u8 b8 hz hu
    go_wp2_with fail
    rw [HE.out]
    have hbc := HB.out.cell
    refine bodyPost_ret (v := .agg #[.int .u64 0, .string ⟨#[]⟩, .bool false]) (by simp [results, Try.results73, go_sem, hbc]) rfl ?_
    rw [HP.out]
    exact ⟨rfl, HU.out⟩
  · have ht : ¬ (txt s).toList = [] := by rw [txt_list]; exact h0
    have ht' : (!(txt s).toList.isEmpty) = true := by simpa using ht
    have hte : (txt s).toList.isEmpty = false := by simpa using ht
    have HN := hd h0
    have hol := openL_len s
    have HOP := hd (fun W => open_any s W hs)
    have hul := U_left ⟨(openL s).2.1, 0⟩
    simp only at hul
    have hU := fun k W (h : RdAt W k ⟨(openL s).2.1, 0⟩) => U_rd ⟨(openL s).2.1, 0⟩ k W h (by simp only; omega)
    have hS := fun k W (h : RdAt W k (RdS.U ⟨(openL s).2.1, 0⟩).2) => S_rd (RdS.U ⟨(openL s).2.1, 0⟩).2 524288 k W h (by omega) (by omega) (by omega)
    have hD := fun k W (h : RdAt W k ((RdS.U ⟨(openL s).2.1, 0⟩).2.S 524288).2) => done_rd ((RdS.U ⟨(openL s).2.1, 0⟩).2.S 524288).2 k W h
    have hult := U_lt ⟨(openL s).2.1, 0⟩
    have HPU := hd hU
    have HPS := hd hS
    have HPD := hd hD
    clear hU hS hD h0 hul
    generalize (RdS.U ⟨(openL s).2.1, 0⟩).2.S 524288 = T at *
    obtain ⟨tt, r3⟩ := T
    generalize hUU : RdS.U ⟨(openL s).2.1, 0⟩ = U at *
    have HUU := hd hUU
    clear hUU
    obtain ⟨uv, r2⟩ := U
    generalize openL s = O at *
    obtain ⟨kd, inn, er⟩ := O
    simp only at HPL HOP HPU HPS HPD hol hult
    have hk256 : kd.toNat < 256 := kd.toNat_lt
    go_enter Try.func73, Try.ntmps73
    go_upto_region 1 with fail
    generalize hWz : w.alloc (.cells #[.int .u64 0, .string ⟨#[]⟩, .bool false] 103) = W at *
    have HZ := hd hz
    have HU0 := hd hu
    clear hz hu hWz
    go_wp2_with fail
    refine (HOP.out W).mono ?_
    rintro x w1 ⟨rfl, hu1⟩
    have HU1 := hd (HU0.out.trans hu1)
    have HZ1 := hd (HZ.out.upd hu1 (by simp))
    clear hu1 HZ HU0
    go_wp2_with fail
    refine (read_new inn w1).mono ?_
    rintro x w2 ⟨rfl, hu2, hr2, hlt2⟩
    obtain ⟨kr, hkr⟩ : ∃ kr, kr = w1.heap.size := ⟨_, rfl⟩
    rw [← hkr] at hr2 hlt2 ⊢
    have hzr : w.heap.size < kr := by have := HZ1.out.lt; omega
    have HU2 := hd (HU1.out.trans hu2)
    have HZ2 := hd (HZ1.out.upd hu2 (by simp))
    have HR2 := hd hr2
    clear hkr hu2 hr2 HU1 HZ1
    go_wp2_with fail
    refine (HPU.out kr w2 HR2.out).mono ?_
    rintro x w3 ⟨rfl, hu3, hr3⟩
    have HU3 := hd (HU2.out.trans' hu3 (by intro i hi; simp at hi; omega))
    have HZ3 := hd (HZ2.out.upd hu3 (by simp; omega))
    have HR3 := hd hr3
    have hlt3 := hr3.lt
    have HH4 := hd (Blk.new w3 #[.int .u64 uv, .string ⟨#[]⟩, .bool false] 103)
    have HU4 := hd (HU3.out.alloc (.cells #[.int .u64 uv, .string ⟨#[]⟩, .bool false] 103))
    have HZ4 := hd (HZ3.out.alloc (.cells #[.int .u64 uv, .string ⟨#[]⟩, .bool false] 103))
    have HR4 := hd (HR3.out.alloc (.cells #[.int .u64 uv, .string ⟨#[]⟩, .bool false] 103))
    clear hu3 hr3 HU2 HZ2 HR2 HU3 HZ3 HR3
    go_upto_region 6 with fail
    generalize hW4 : w3.alloc (.cells #[.int .u64 uv, .string ⟨#[]⟩, .bool false] 103) = w4 at *
    obtain ⟨kh, hkh⟩ : ∃ kh, kh = w3.heap.size := ⟨_, rfl⟩
    rw [← hkh] at HH4 ⊢
    have hrh : kr < kh := by omega
    clear hW4 hkh
    go_wp2_with fail
    refine (HPS.out kr w4 HR4.out).mono ?_
    rintro x w5 ⟨rfl, hu5, hr5⟩
    have hh5 := HH4.out.upd hu5 (by simp; omega)
    have hhc := hh5.cell
    have hhz := hh5.frozen
    have HH6 := hd (hh5.set 1 (.string (txt tt)))
    have HU6 := hd (HU4.out.trans' (hu5.mono (M := [kr, kh]) (by simp)) (by intro i hi; simp at hi; omega))
    have HX6 := hd ((Upd.refl [kh] w5).setCell (p := ⟨kh, 1, none⟩) (by simp) (.string (txt tt)))
    have HZ6 := hd ((HZ4.out.upd hu5 (by simp; omega)).upd HX6.out (by simp; omega))
    have HR6 := hd (Blk.upd hr5 HX6.out (by simp; omega))
    have HV6 := hd (HU6.out.trans' HX6.out (by intro i hi; simp at hi; omega))
    clear hu5 hr5 hh5 HH4 HU4 HZ4 HR4
    go_upto_region 7 with fail
    generalize w5.setCell ⟨kh, 1, none⟩ (.string (txt tt)) = w6 at *
    have hh6 : Blk w6 kh #[.int .u64 uv, .string (txt tt), .bool false] 103 := HH6.out
    clear hhc hhz
    have hhc := hh6.cell
    have hzc := HZ6.out.cell
    have hzz := HZ6.out.frozen
    by_cases c1 : er = 0
    · have c1' : (er != 0) = false := by simp [c1]
      have C1 := hd c1
      clear c1
      by_cases c2 : kd = 1
      · have c2' : ((kd.toNat : Int) != 1) = false := by rw [c2]; rfl
        have C2 := hd c2
        clear c2
        by_cases c3 : inn.length + 8 = s.length
        · have c3' : ((inn.length : Int) + 8 != (s.length : Int)) = false := by simp; omega
          have C3 := hd c3
          have hwi : IntKind.i64.wrap ((inn.length : Int) + 8) = inn.length + 8 := by rw [IntKind.wrap_i64]; omega
          clear c3
          go_wp2_with fail
          refine (HPD.out kr w6 HR6.out).mono ?_
          rintro x w7 ⟨rfl, hu7, hr7⟩
          have HZ7 := hd (HZ6.out.upd hu7 (by simp; omega))
          have hh7 := hh6.upd hu7 (by simp; omega)
          have HV7 := hd (HV6.out.trans' hu7 (by intro i hi; simp at hi; omega))
          have hhc := hh7.cell
          have hzc := HZ7.out.cell
          have hzz := HZ7.out.frozen
          clear hu7 hr7
          by_cases c4 : r3.done.err = 0
          · have c4' : (r3.done.err != 0) = false := by simp [c4]
            have C4 := hd c4
            clear c4
            by_cases c5 : uv = 0
            · have c5' : ((uv : Int) == 0) = true := by simp [c5]
              have C5 := hd c5
              clear c5
              have HP := hd (show parseL s = ⟨0, [], true⟩ by rw [HPL.out, if_neg HN.out, if_neg (fun h => h.2.2.2.2 C5.out)])
              obtain ⟨W8, e8, u8, b8⟩ := set3 HZ7.out (.int .u64 0) (.string ⟨#[]⟩) (.bool true)
              have HE := hd e8
              have HUF := hd (HV7.out.trans' u8 (by intro i hi; simp at hi; omega))
              have HB := hd b8
              clear e8 u8 b8
              go_wp2_with fail
              rw [HE.out]
              have hbc := HB.out.cell
              refine bodyPost_ret (v := .agg #[(.int .u64 0), (.string ⟨#[]⟩), (.bool true)]) (by simp [results, Try.results73, go_sem, hbc]) rfl ?_
              rw [HP.out]
              exact ⟨rfl, HUF.out⟩
            · have c5' : ((uv : Int) == 0) = false := by simp; omega
              have C5 := hd c5
              clear c5
              have HP := hd (show parseL s = ⟨uv, tt, false⟩ by rw [HPL.out, if_neg HN.out, if_pos ⟨C1.out, C2.out, C3.out, C4.out, C5.out⟩])
              obtain ⟨W8, e8, u8, b8⟩ := set3 HZ7.out (.int .u64 uv) (.string (txt tt)) (.bool false)
              have HE := hd e8
              have HUF := hd (HV7.out.trans' u8 (by intro i hi; simp at hi; omega))
              have HB := hd b8
              clear e8 u8 b8
              go_wp2_with fail
              rw [HE.out]
              have hbc := HB.out.cell
              refine bodyPost_ret (v := .agg #[(.int .u64 uv), (.string (txt tt)), (.bool false)]) (by simp [results, Try.results73, go_sem, hbc]) rfl ?_
              rw [HP.out]
              exact ⟨rfl, HUF.out⟩
          · have c4' : (r3.done.err != 0) = true := by simpa using c4
            have C4 := hd c4
            clear c4
            have HP := hd (show parseL s = ⟨0, [], true⟩ by rw [HPL.out, if_neg HN.out, if_neg (fun h => C4.out h.2.2.2.1)])
            obtain ⟨W8, e8, u8, b8⟩ := set3 HZ7.out (.int .u64 0) (.string ⟨#[]⟩) (.bool true)
            have HE := hd e8
            have HUF := hd (HV7.out.trans' u8 (by intro i hi; simp at hi; omega))
            have HB := hd b8
            clear e8 u8 b8
            go_wp2_with fail
            rw [HE.out]
            have hbc := HB.out.cell
            refine bodyPost_ret (v := .agg #[(.int .u64 0), (.string ⟨#[]⟩), (.bool true)]) (by simp [results, Try.results73, go_sem, hbc]) rfl ?_
            rw [HP.out]
            exact ⟨rfl, HUF.out⟩
        · have c3' : ((inn.length : Int) + 8 != (s.length : Int)) = true := by simp; omega
          have C3 := hd c3
          have hwi : IntKind.i64.wrap ((inn.length : Int) + 8) = inn.length + 8 := by rw [IntKind.wrap_i64]; omega
          clear c3
          have HP := hd (show parseL s = ⟨0, [], true⟩ by rw [HPL.out, if_neg HN.out, if_neg (fun h => C3.out h.2.2.1)])
          obtain ⟨W8, e8, u8, b8⟩ := set3 HZ6.out (.int .u64 0) (.string ⟨#[]⟩) (.bool true)
          have HE := hd e8
          have HUF := hd (HV6.out.trans' u8 (by intro i hi; simp at hi; omega))
          have HB := hd b8
          clear e8 u8 b8
          go_wp2_with fail
          rw [HE.out]
          have hbc := HB.out.cell
          refine bodyPost_ret (v := .agg #[(.int .u64 0), (.string ⟨#[]⟩), (.bool true)]) (by simp [results, Try.results73, go_sem, hbc]) rfl ?_
          rw [HP.out]
          exact ⟨rfl, HUF.out⟩
      · have c2' : ((kd.toNat : Int) != 1) = true := by
          simp only [bne_iff_ne, ne_eq]
          intro e
          exact c2 (UInt8.toNat_inj.1 (show kd.toNat = 1 by omega))
        have C2 := hd c2
        clear c2
        have HP := hd (show parseL s = ⟨0, [], true⟩ by rw [HPL.out, if_neg HN.out, if_neg (fun h => C2.out h.2.1)])
        obtain ⟨W8, e8, u8, b8⟩ := set3 HZ6.out (.int .u64 0) (.string ⟨#[]⟩) (.bool true)
        have HE := hd e8
        have HUF := hd (HV6.out.trans' u8 (by intro i hi; simp at hi; omega))
        have HB := hd b8
        clear e8 u8 b8
        go_wp2_with fail
        rw [HE.out]
        have hbc := HB.out.cell
        refine bodyPost_ret (v := .agg #[(.int .u64 0), (.string ⟨#[]⟩), (.bool true)]) (by simp [results, Try.results73, go_sem, hbc]) rfl ?_
        rw [HP.out]
        exact ⟨rfl, HUF.out⟩
    · have c1' : (er != 0) = true := by simpa using c1
      have C1 := hd c1
      clear c1
      have HP := hd (show parseL s = ⟨0, [], true⟩ by rw [HPL.out, if_neg HN.out, if_neg (fun h => C1.out h.1)])
      obtain ⟨W8, e8, u8, b8⟩ := set3 HZ6.out (.int .u64 0) (.string ⟨#[]⟩) (.bool true)
      have HE := hd e8
      have HUF := hd (HV6.out.trans' u8 (by intro i hi; simp at hi; omega))
      have HB := hd b8
      clear e8 u8 b8
      go_wp2_with fail
      rw [HE.out]
      have hbc := HB.out.cell
      refine bodyPost_ret (v := .agg #[(.int .u64 0), (.string ⟨#[]⟩), (.bool true)]) (by simp [results, Try.results73, go_sem, hbc]) rfl ?_
      rw [HP.out]
      exact ⟨rfl, HUF.out⟩
end Go.Proofs.Ytjaoiaknglnomaa

/-
  The small functions of package disk, walked: has, weight, safe, try, settle, Used. Conditions: the strings of a disk are of at most 2^40 bytes each.
-/
set_option linter.unusedVariables false
namespace Go.Proofs.Ytjaoiaknglnomaa
open Go.RowKit

structure FileS where
  now : ByteArray
  sure : ByteArray
  put : Bool

structure DiskS where
  f0 : FileS
  f1 : FileS
  f2 : FileS
  f3 : FileS
  room : Int
  fail : Int

def FileS.val (f : FileS) : Value := .agg #[.string f.now, .string f.sure, .bool f.put]
def FileS.weight (f : FileS) : Nat := max f.now.size f.sure.size
def FileS.small (f : FileS) : Prop := f.now.size ≤ 1099511627776 ∧ f.sure.size ≤ 1099511627776
def DiskS.cells (d : DiskS) : Array Value := #[.string d.f0.now, .string d.f0.sure, .bool d.f0.put, .string d.f1.now, .string d.f1.sure, .bool d.f1.put,
  .string d.f2.now, .string d.f2.sure, .bool d.f2.put, .string d.f3.now, .string d.f3.sure, .bool d.f3.put, .int .i64 d.room, .int .i64 d.fail]
def DiskS.small (d : DiskS) : Prop := d.f0.small ∧ d.f1.small ∧ d.f2.small ∧ d.f3.small
def DiskS.get (d : DiskS) (i : Nat) : FileS := match i with | 0 => d.f0 | 1 => d.f1 | 2 => d.f2 | _ => d.f3
def DiskS.set (d : DiskS) (i : Nat) (f : FileS) : DiskS := match i with | 0 => { d with f0 := f } | 1 => { d with f1 := f } | 2 => { d with f2 := f } | _ => { d with f3 := f }
def DiskS.used (d : DiskS) : Nat := d.f0.weight + d.f1.weight + d.f2.weight + d.f3.weight

abbrev DiskAt (w : World) (b : Nat) (d : DiskS) : Prop := Blk w b d.cells 92

theorem has_any (f : Int) (w : World) :
    Calls Try.prog 52 #[.int .i64 f] w fun e w' => e = .returned (.bool (decide (0 ≤ f ∧ f < 4))) ∧ w = w' := by
  by_cases h1 : 0 ≤ f <;> by_cases h2 : f < 4
  all_goals
    go_enter Try.func52, Try.ntmps52
    go_wp2
    go_ret
    exact ⟨by simp [h1, h2], rfl⟩

theorem ret_int {k : IntKind} {a b : Int} (h : a = b) : Ending.returned (.int k a) = .returned (.int k b) := by rw [h]
theorem ret_bool {a b : Bool} (h : a = b) : Ending.returned (.bool a) = .returned (.bool b) := by rw [h]

theorem weight_any (n s : ByteArray) (p : Bool) (w : World) (hn : n.size ≤ 1099511627776) (hs : s.size ≤ 1099511627776) :
    Calls Try.prog 56 #[.agg #[.string n, .string s, .bool p]] w fun e w' => e = .returned (.int .i64 ((max n.size s.size : Nat) : Int)) ∧ Upd [] w w' := by
  go_enter Try.func56, Try.ntmps56
  go_wp2
  all_goals
    go_ret
    refine ⟨ret_int ?_, (Upd.refl _ _).alloc _⟩
    try omega

theorem safe_any (n s : ByteArray) (p : Bool) (w : World) :
    Calls Try.prog 54 #[.agg #[.string n, .string s, .bool p]] w fun e w' => e = .returned (.bool (n.toList == s.toList)) ∧ Upd [] w w' := by
  go_enter Try.func54, Try.ntmps54
  go_wp2
  all_goals
    go_ret
    exact ⟨rfl, (Upd.refl _ _).alloc _⟩

/-- What 'try' answers: the error's number, and the disk's own count. -/
def tryRes (fail f : Int) : Int × Int :=
  if 0 ≤ f ∧ f < 4 then (if fail = 0 then (0, 0) else if fail - 1 = 0 then (8, 0) else (0, fail - 1)) else (1, fail)

theorem try_any (d : DiskS) (f : Int) (w : World) (b : Nat) (hd : DiskAt w b d) (hf : -9223372036854775808 < d.fail) (hf' : d.fail ≤ 9223372036854775807) :
    Calls Try.prog 50 #[.pointer (some ⟨b, 0, none⟩), .int .i64 f] w fun e w' => e = .returned (.int .i64 (tryRes d.fail f).1) ∧ Upd [b] w w' ∧ DiskAt w' b { d with fail := (tryRes d.fail f).2 } := by
  have hc := hd.cell
  have hz := hd.frozen
  have hlt := hd.lt
  simp only [DiskS.cells] at hc
  have hd' := Lib.hid hd
  clear hd
  by_cases h1 : 0 ≤ f ∧ f < 4
  · have hne : decide (0 ≤ f ∧ f < 4) = true := by simpa using h1
    by_cases h2 : d.fail = 0
    · have h2' : (d.fail == 0) = true := by simpa using h2
      have hr : tryRes d.fail f = (0, 0) := by simp [tryRes, h1, h2]
      have hR := Lib.hid hr
      have hH := Lib.hid h2
      clear hr h2
      go_enter Try.func50, Try.ntmps50
      go_wp2_with ((with_reducible refine (has_any f _).mono ?_); rintro e w' ⟨rfl, rfl⟩)
      go_ret
      rw [hR.out]
      refine ⟨rfl, Upd.refl _ _, ?_⟩
      have := hd'.out
      rw [show ({ d with fail := 0 } : DiskS) = d from by rw [← hH.out]]
      exact this
    · by_cases h3 : d.fail = 1
      · have h2' : (d.fail == 0) = false := by simpa using h2
        have hr : tryRes d.fail f = (8, 0) := by simp [tryRes, h1, h3]
        have hm : (d.fail - 1 == 0) = true := by simp; omega
        have e1 : d.fail - 1 = 0 := by omega
        have hR := Lib.hid hr
        have hE := Lib.hid e1
        clear hr h2 h3 e1
        go_enter Try.func50, Try.ntmps50
        go_wp2_with ((with_reducible refine (has_any f _).mono ?_); rintro e w' ⟨rfl, rfl⟩)
        go_ret
        rw [hR.out, hE.out]
        exact ⟨rfl, (Upd.refl _ _).setCell (by simp) _, hd'.out.set 13 _⟩
      · have h2' : (d.fail == 0) = false := by simpa using h2
        have hm : (d.fail - 1 == 0) = false := by simp; omega
        have hr : tryRes d.fail f = (0, d.fail - 1) := by simp [tryRes, h1, h2]; omega
        have hR := Lib.hid hr
        clear hr h2 h3
        go_enter Try.func50, Try.ntmps50
        go_wp2_with ((with_reducible refine (has_any f _).mono ?_); rintro e w' ⟨rfl, rfl⟩)
        go_ret
        rw [hR.out]
        exact ⟨rfl, (Upd.refl _ _).setCell (by simp) _, hd'.out.set 13 _⟩
  · go_enter Try.func50, Try.ntmps50
    have hne : decide (0 ≤ f ∧ f < 4) = false := by simpa using h1
    have hr : tryRes d.fail f = (1, d.fail) := by simp [tryRes, h1]
    have hR := Lib.hid hr
    clear hr
    go_wp2_with ((with_reducible refine (has_any f _).mono ?_); rintro e w' ⟨rfl, rfl⟩)
    go_ret
    rw [hR.out]
    exact ⟨rfl, Upd.refl _ _, hd'.out⟩

theorem settle_any (d : DiskS) (f : Nat) (s : ByteArray) (w : World) (b : Nat) (hd : DiskAt w b d) (hf : f < 4) :
    Calls Try.prog 51 #[.pointer (some ⟨b, 0, none⟩), .int .i64 f, .string s] w fun e w' => e = .returned (.tuple #[]) ∧ Upd [b] w w' ∧ DiskAt w' b (d.set f ⟨s, s, false⟩) := by
  have hc := hd.cell
  have hz := hd.frozen
  have hlt := hd.lt
  simp only [DiskS.cells] at hc
  have hd' := Lib.hid hd
  clear hd
  match f, hf with
  | 0, _ =>
    go_enter Try.func51, Try.ntmps51
    go_wp2
    go_end0
    exact ⟨rfl, (((Upd.refl _ _).setCell (by simp) _).setCell (by simp) _).setCell (by simp) _, ((hd'.out.set 0 _).set 1 _).set 2 _⟩
  | 1, _ =>
    go_enter Try.func51, Try.ntmps51
    go_wp2
    go_end0
    exact ⟨rfl, (((Upd.refl _ _).setCell (by simp) _).setCell (by simp) _).setCell (by simp) _, ((hd'.out.set 3 _).set 4 _).set 5 _⟩
  | 2, _ =>
    go_enter Try.func51, Try.ntmps51
    go_wp2
    go_end0
    exact ⟨rfl, (((Upd.refl _ _).setCell (by simp) _).setCell (by simp) _).setCell (by simp) _, ((hd'.out.set 6 _).set 7 _).set 8 _⟩
  | 3, _ =>
    go_enter Try.func51, Try.ntmps51
    go_wp2
    go_end0
    exact ⟨rfl, (((Upd.refl _ _).setCell (by simp) _).setCell (by simp) _).setCell (by simp) _, ((hd'.out.set 9 _).set 10 _).set 11 _⟩

def DiskS.usedTo (d : DiskS) (k : Int) : Nat :=
  if k = 0 then 0 else if k = 1 then d.f0.weight else if k = 2 then d.f0.weight + d.f1.weight else if k = 3 then d.f0.weight + d.f1.weight + d.f2.weight else d.used

theorem array_index (f0 f1 f2 f3 : FileS) (w : World) :
    (Instr.index 90 (.agg #[.string f0.now, .string f0.sure, .bool f0.put, .string f1.now, .string f1.sure, .bool f1.put, .string f2.now, .string f2.sure, .bool f2.put, .string f3.now, .string f3.sure, .bool f3.put]) (.int .i64 0)).run Try.prog w = .ok (.agg #[.string f0.now, .string f0.sure, .bool f0.put]) w ∧
    (Instr.index 90 (.agg #[.string f0.now, .string f0.sure, .bool f0.put, .string f1.now, .string f1.sure, .bool f1.put, .string f2.now, .string f2.sure, .bool f2.put, .string f3.now, .string f3.sure, .bool f3.put]) (.int .i64 1)).run Try.prog w = .ok (.agg #[.string f1.now, .string f1.sure, .bool f1.put]) w ∧
    (Instr.index 90 (.agg #[.string f0.now, .string f0.sure, .bool f0.put, .string f1.now, .string f1.sure, .bool f1.put, .string f2.now, .string f2.sure, .bool f2.put, .string f3.now, .string f3.sure, .bool f3.put]) (.int .i64 2)).run Try.prog w = .ok (.agg #[.string f2.now, .string f2.sure, .bool f2.put]) w ∧
    (Instr.index 90 (.agg #[.string f0.now, .string f0.sure, .bool f0.put, .string f1.now, .string f1.sure, .bool f1.put, .string f2.now, .string f2.sure, .bool f2.put, .string f3.now, .string f3.sure, .bool f3.put]) (.int .i64 3)).run Try.prog w = .ok (.agg #[.string f3.now, .string f3.sure, .bool f3.put]) w := by
  refine ⟨?_, ?_, ?_, ?_⟩ <;> kernel_rfl

set_option maxHeartbeats 400000 in
theorem used_any (d : DiskS) (w : World) (b : Nat) (hd : DiskAt w b d) (hs : d.small) :
    Calls Try.prog 24 #[.pointer (some ⟨b, 0, none⟩)] w fun e w' => e = .returned (.int .i64 (d.used : Int)) ∧ Upd [] w w' := by
  have hc := hd.cell
  have hlt := hd.lt
  simp only [DiskS.cells] at hc
  clear hd
  obtain ⟨⟨s00, s01⟩, ⟨s10, s11⟩, ⟨s20, s21⟩, ⟨s30, s31⟩⟩ := hs
  have i0 := fun w => (array_index d.f0 d.f1 d.f2 d.f3 w).1
  have i1 := fun w => (array_index d.f0 d.f1 d.f2 d.f3 w).2.1
  have i2 := fun w => (array_index d.f0 d.f1 d.f2 d.f3 w).2.2.1
  have i3 := fun w => (array_index d.f0 d.f1 d.f2 d.f3 w).2.2.2
  go_enter Try.func24, Try.ntmps24
  go_wp2
  go_loopw [3, 5, 10] (fun n _ i wr => ∃ (k : Int) (m : Nat), 0 ≤ k ∧ k ≤ 4 ∧ i = .int .i64 k ∧ n = .int .i64 m ∧ m ≤ k.toNat * 1099511627776 ∧ Hid (m = d.usedTo k) ∧ Upd [] w wr) (fun _ _ i _ => 4 - (intOf i).toNat)
  case atStart => exact ⟨0, 0, by omega, by omega, rfl, rfl, by omega, rfl, Upd.refl _ _⟩
  case round =>
    obtain ⟨k, m, hk0, hk, rfl, rfl, hm, hH, hu⟩ := hrel
    have hu' := Lib.hid hu
    clear hu
    rcases (by omega : k = 0 ∨ k = 1 ∨ k = 2 ∨ k = 3 ∨ k = 4) with rfl | rfl | rfl | rfl | rfl
    · go_wp2_with ((with_reducible refine (weight_any d.f0.now d.f0.sure d.f0.put _ s00 s01).mono ?_); rintro e w1 ⟨rfl, hu1⟩)
      go_roundw
      case rel => exact ⟨1, m + d.f0.weight, by omega, by omega, rfl, by unfold FileS.weight; go_num, by unfold FileS.weight; omega, by have := hH.out; simp [DiskS.usedTo] at this ⊢; subst this; rfl, (hu'.out.trans ((Upd.refl _ _).alloc _)).trans hu1⟩
      case measure => simp [intOf]
    · go_wp2_with ((with_reducible refine (weight_any d.f1.now d.f1.sure d.f1.put _ s10 s11).mono ?_); rintro e w1 ⟨rfl, hu1⟩)
      go_roundw
      case rel => exact ⟨2, m + d.f1.weight, by omega, by omega, rfl, by unfold FileS.weight; go_num, by unfold FileS.weight; omega, by have := hH.out; simp [DiskS.usedTo] at this ⊢; subst this; rfl, (hu'.out.trans ((Upd.refl _ _).alloc _)).trans hu1⟩
      case measure => simp [intOf]
    · go_wp2_with ((with_reducible refine (weight_any d.f2.now d.f2.sure d.f2.put _ s20 s21).mono ?_); rintro e w1 ⟨rfl, hu1⟩)
      go_roundw
      case rel => exact ⟨3, m + d.f2.weight, by omega, by omega, rfl, by unfold FileS.weight; go_num, by unfold FileS.weight; omega, by have := hH.out; simp [DiskS.usedTo] at this ⊢; subst this; rfl, (hu'.out.trans ((Upd.refl _ _).alloc _)).trans hu1⟩
      case measure => simp [intOf]
    · go_wp2_with ((with_reducible refine (weight_any d.f3.now d.f3.sure d.f3.put _ s30 s31).mono ?_); rintro e w1 ⟨rfl, hu1⟩)
      go_roundw
      case rel => exact ⟨4, m + d.f3.weight, by omega, by omega, rfl, by unfold FileS.weight; go_num, by unfold FileS.weight; omega, by have := hH.out; simp [DiskS.usedTo] at this ⊢; subst this; rfl, (hu'.out.trans ((Upd.refl _ _).alloc _)).trans hu1⟩
      case measure => simp [intOf]
    · go_wp2
      go_ret
      exact ⟨ret_int (by have := hH.out; simp [DiskS.usedTo] at this; omega), hu'.out⟩

end Go.Proofs.Ytjaoiaknglnomaa
