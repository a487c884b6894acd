/-
  AcceptFull of layer 16, walked: it answers true. No condition.
-/
import Derived.Test.YtfhmdeamhmjddaaPm10
import Derived.Deep.Cut
import Derived.Deep.CutRange
import Derived.Test.YtfhmdeamhmjddaaPm8
set_option linter.unusedVariables false
set_option linter.unusedSimpArgs false
set_option maxRecDepth 100000
namespace Go.Proofs.Ytfhmdeamhmjddaa
open Go.RowKit

theorem i64_and262143 (n : Int) : bits .and .i64 n 262143 = n % 262144 := by
  have h3 : (BitVec.ofInt 64 262143).toNat = 2 ^ 18 - 1 := by decide
  have key : (BitVec.ofInt 64 n &&& BitVec.ofInt 64 262143).toNat = (n % ((2 ^ 64 : Nat) : Int)).toNat % 2 ^ 18 := by
    rw [BitVec.toNat_and, BitVec.toNat_ofInt, h3, Nat.and_two_pow_sub_one_eq_mod]
  show IntKind.i64.wrap ((BitVec.ofInt 64 n &&& BitVec.ofInt 64 262143).toNat : Nat) = n % 262144
  rw [key, IntKind.wrap_i64]
  omega
theorem own_ne_any {w : World} {B T sz k T' : Nat} {c : Array Value} {v : Value} {n : Nat} {xs : List Value} (h : w.ownsRow B T sz v n xs) (hb : Blk w k c T') (hT : T ≠ T') : ∀ g, v.ownBlock = some g → g ≠ k := by
  intro g hg
  obtain ⟨a, cap, rfl, -⟩ := own_open h
  cases a with
  | none => cases hg
  | some ad =>
    rcases h.2 with ⟨he, _⟩ | ⟨g', cap', cur, he, hbb, hgg, _⟩
    · cases he
    · rw [he] at hg
      simp only [Value.ownBlock, Option.some.injEq] at hg
      subst hg
      rintro rfl
      rw [Blk, hgg] at hb
      simp only [Option.some.injEq, Obj.cells.injEq] at hb
      exact hT hb.2.1
/-- A block of another type stands behind what an acceptor's call turned. -/
theorem blk_aside {B b k T : Nat} {l l' : Value} {d : AccS} {c : Array Value} {w w' : World} (h : AccAt B w b l d) (hk : Blk w k c T) (hT : 85 ≠ T) (hb : k ≠ b) (hu : WrUp b l l' w w') : Blk w' k c T :=
  hk.upd hu.upd (fun hm => by
    rcases List.mem_cons.1 hm with e | e
    · exact hb e
    · exact own_ne_any h.own hk hT k (by simpa using e) rfl)
theorem upd_aside {B b : Nat} {l l' : Value} {d : AccS} {w w0 w1 : World} (h : AccAt B w0 b l d) (hb : w.heap.size ≤ b) (hB : w.heap.size ≤ B) (hu0 : Upd [] w w0) (hu : WrUp b l l' w0 w1) : Upd [] w w1 :=
  hu0.trans' hu.upd (fun q hq => by
    rcases List.mem_cons.1 hq with e | e
    · exact .inr (by omega)
    · exact .inr (Nat.le_trans hB (own_ge h.own q (by simpa using e)).1))

theorem ballot_c (w : World) (c n : Int) : (Instr.field 35 (.agg #[.int .u64 c, .int .i64 n]) 0).run Try.prog w = .ok (.int .u64 c) w := by
  simp [Instr.field, run_underlying Try.underlying35, asAgg, part]

def letterA : ByteArray := ⟨#[97]⟩
def letterB : ByteArray := ⟨#[98]⟩

set_option maxHeartbeats 8000000 in
theorem full16_law (wit : Bool) (f x : Int) (w : World) :
    Calls Try.prog 5 #[.bool wit, .int .i64 f, .int .i64 x] w fun e w' => e = .returned (.bool true) ∧ Upd [] w w' := by
  have hand := i64_and65535 f
  have hz0 : 0 ≤ f % 65536 ∧ f % 65536 < 65536 := by omega
  generalize f % 65536 = z at *
  have handx := i64_and262143 x
  have hx0 : 0 ≤ x % 262144 ∧ x % 262144 < 262144 := by omega
  generalize x % 262144 = X at *
  obtain ⟨hzl, hzu⟩ := hz0
  obtain ⟨hxl, hxu⟩ := hx0
  go_enter Try.func5, Try.ntmps5
  go_wp2_with fail
  refine (awake_any w).mono ?_
  rintro e w1 ⟨rfl, hu1⟩
  have HU1 := hd hu1
  clear hu1
  go_wp2_with fail
  refine (anew_any wit w1).mono ?_
  rintro e w2 ⟨rfl, hu2, hd2, hlt2⟩
  obtain ⟨b, hb⟩ : ∃ b, b = w1.heap.size := ⟨_, rfl⟩
  rw [← hb] at hd2 hlt2 ⊢
  have hwb : w.heap.size ≤ b := by have := HU1.out.size; omega
  have HU2 := hd (HU1.out.trans hu2)
  have HD2 := hd (show AccAt w.heap.size w2 b (.slice none 0 0) (acc0 wit) from ⟨hd2.blk, own_mono hd2.own (by omega)⟩)
  clear hu2 hd2 hb HU1
  go_wp2_with fail
  have HKB := hd (Blk.new w2 #[.int .u64 1, .int .i64 3] 35)
  have HU3 := hd (HU2.out.alloc (.cells #[.int .u64 1, .int .i64 3] 35))
  have HD3 : Hd (AccAt w.heap.size (w2.alloc (.cells #[.int .u64 1, .int .i64 3] 35)) b (.slice none 0 0) (fullAcc wit (1 + z) (keptOf wit letterA) 0)) := hd (HD2.out.alloc _)
  obtain ⟨kb, hkb⟩ : ∃ kb, kb = w2.heap.size := ⟨_, rfl⟩
  have hkbb : kb ≠ b := by omega
  generalize w2.alloc (.cells #[.int .u64 1, .int .i64 3] 35) = w3 at *
  rw [← hkb] at HKB ⊢
  clear HU2 HD2 hkb hlt2
  have hF1 : 1 ≤ (1 + z) := by omega
  have hF2 : (1 + z) ≤ 65536 := by omega
  go_loopw [25] (fun c wr => ∃ (m : Nat) (l : Value), c = .int .i64 m ∧ m ≤ 64 ∧ Upd [] w wr ∧ AccAt w.heap.size wr b l (fullAcc wit (1 + z) (keptOf wit letterA) m) ∧ Blk wr kb #[.int .u64 1, .int .i64 3] 35) (fun c _ => 64 - (intOf c).toNat)
  case atStart => exact ⟨0, _, rfl, by omega, HU3.out, HD3.out, HKB.out⟩
  case round =>
    clear HU3 HD3 HKB
    obtain ⟨m, l, rfl, hm, hu, ha, hk⟩ := hrel
    have HU := hd hu
    have HA := hd ha
    have HK := hd hk
    by_cases hm64 : m < 64
    · have hacc := accept_any w.heap.size b l (fullAcc wit (1 + z) (keptOf wit letterA) m) { bal := ⟨1, 3⟩, slot := (1 + z) + 2 * (m : Int), text := letterA } none 0 0 wr ha (fine_full wit (1 + z) _ m hF1 hF2 hm) (by unfold SlotIn; simp only; omega) (by show (1 : Nat) ≤ _; omega) hu.size
      rw [full_step wit (1 + z) letterA m hF1 hm64] at hacc
      simp only [MsgS.val, msgC, letterA] at hacc
      have hkc := hk.cell
      have HACC := hd hacc
      clear hacc hu ha hk
      have hwm : IntKind.i64.wrap (2 * (m : Int)) = 2 * (m : Int) := by rw [IntKind.wrap_i64]; omega
      have hwm2 : IntKind.i64.wrap ((1 + z) + 2 * (m : Int)) = (1 + z) + 2 * (m : Int) := by rw [IntKind.wrap_i64]; omega
      go_wp2_with fail
      refine HACC.out.mono ?_
      rintro e w4 ⟨l', rfl, ha', hwu⟩
      have HK4 := hd (blk_aside HA.out HK.out (by decide) hkbb hwu)
      have HU4 := hd (upd_aside HA.out hwb (Nat.le_refl _) HU.out hwu)
      have HA4 := hd ha'
      clear HACC ha' hwu hkc
      go_wp2_with fail
      go_roundw
      case rel => exact ⟨m + 1, l', by go_num, by omega, HU4.out.alloc _, HA4.out.alloc _, HK4.out.alloc _⟩
      case measure => simp [intOf]; omega
    · obtain rfl : m = 64 := by omega
      have hfine := fine_full wit (1 + z) (keptOf wit letterA) 64 hF1 hF2 (by omega)
      have hacc := accept_any w.heap.size b l (fullAcc wit (1 + z) (keptOf wit letterA) 64) { bal := ⟨2, 0⟩, slot := X, text := letterB } none 0 0 wr ha hfine (by unfold SlotIn; simp only; omega) (by show (1 : Nat) ≤ _; omega) hu.size
      have hth := there_full (1 + z) (keptOf wit letterA) X
      obtain ⟨there, hthere⟩ : ∃ t : Bool, t = decide ((1 + z) ≤ X ∧ X ≤ (1 + z) + 126 ∧ (X - (1 + z)) % 2 = 0) := ⟨_, rfl⟩
      rw [← hthere] at hth
      have HTH := hd hthere
      have HACC0 := hd hacc
      clear hthere hacc hu ha hk
      go_upto_region 16 with fail
      go_cut [12] from 47 (fun c wx => c = .bool there ∧ wx = wr)
      case first =>
        by_cases h1 : (1 + z) ≤ X
        · have htm : Int.tmod (X - (1 + z)) 2 = (X - (1 + z)) % 2 := Int.tmod_eq_emod_of_nonneg (by omega)
          by_cases h2 : X ≤ (1 + z) + 126
          · by_cases h3 : (X - (1 + z)) % 2 = 0
            · have hv : there = true := by rw [HTH.out]; exact decide_eq_true ⟨h1, h2, h3⟩
              go_wp2_with fail
              go_meet
              case rel => exact ⟨by rw [hv], rfl⟩
            · have h3' : (X - (1 + z)) % 2 = 1 := by omega
              have hv : there = false := by rw [HTH.out]; exact decide_eq_false (fun h => h3 h.2.2)
              go_wp2_with fail
              go_meet
              case rel => exact ⟨by rw [hv], rfl⟩
          · have hv : there = false := by rw [HTH.out]; exact decide_eq_false (fun h => h2 h.2.1)
            go_wp2_with fail
            go_meet
            case rel => exact ⟨by rw [hv], rfl⟩
        · have hv : there = false := by rw [HTH.out]; exact decide_eq_false (fun h => h1 h.1)
          go_wp2_with fail
          go_meet
          case rel => exact ⟨by rw [hv], rfl⟩
      case rest =>
       obtain ⟨rfl, hwc⟩ := hcut
       subst hwc
       have hacc := HACC0.out
       clear HACC0
       rcases (by by_cases h : X = 0 <;> cases there <;> simp [h] : there = false ∧ X = 0 ∨ (there = false ∧ ¬ X = 0) ∨ there = true) with ⟨hv, hX⟩ | ⟨hv, hX⟩ | hv
       · subst hv
         subst hX
         rw [full_zero wit (1 + z) _ letterB hF1] at hacc
         simp only [MsgS.val, msgC, letterB] at hacc
         have HACC := hd hacc
         clear hacc hth
         go_wp2_with fail
         refine HACC.out.mono ?_
         rintro e w4 ⟨l', rfl, ha', hwu⟩
         have HU4 := hd (upd_aside HA.out hwb (Nat.le_refl _) HU.out hwu)
         have HA4 := hd ha'
         clear HACC ha' hwu
         go_wp2_with fail
         have hlen : (({ fullAcc wit (1 + z) (keptOf wit letterA) 64 with bal := ⟨2, 0⟩ } : AccS).list.length) = 64 := fullList_length _ _ _
         refine (list_any w.heap.size b l' _ _ (HA4.out.alloc (.cells #[.int .i64 4, .int .i64 0, .int .i64 0, .int .i64 0, .int .u64 2, .int .i64 0, .int .i64 0, .int .i64 0, .bool false, .string ⟨#[]⟩, .slice none 0 0] 41)) (by rw [hlen]; omega)).mono ?_
         rintro e w5 ⟨v', rfl, hu5, ho5⟩
         rw [hlen] at ho5
         obtain ⟨xa, xc, rfl, -⟩ := own_open ho5
         have HU5 := hd ((HU4.out.alloc _).trans hu5)
         clear hu5 ho5
         go_wp2_with fail
         go_ret
         exact ⟨rfl, HU5.out⟩
       · subst hv
         have hX0 : 0 < X := by omega
         have hXb : (X == 0) = false := by simpa using hX
         rw [full_none wit (1 + z) _ letterB X hX0 hth] at hacc
         simp only [MsgS.val, msgC, letterB] at hacc
         have HACC := hd hacc
         clear hacc hth
         go_wp2_with fail
         refine HACC.out.mono ?_
         rintro e w4 ⟨l', rfl, ha', hwu⟩
         have hk4 := blk_aside HA.out HK.out (by decide) hkbb hwu
         have HK5 := hd (hk4.alloc (.cells #[.int .i64 0, .int .i64 0, .int .i64 0, .int .i64 0, .int .u64 0, .int .i64 0, .int .i64 0, .int .i64 0, .bool false, .string ⟨#[]⟩, .slice none 0 0] 41))
         have HG5 := hd (Blk.new w4 #[.int .i64 0, .int .i64 0, .int .i64 0, .int .i64 0, .int .u64 0, .int .i64 0, .int .i64 0, .int .i64 0, .bool false, .string ⟨#[]⟩, .slice none 0 0] 41)
         have HU5 := hd ((upd_aside HA.out hwb (Nat.le_refl _) HU.out hwu).alloc (.cells #[.int .i64 0, .int .i64 0, .int .i64 0, .int .i64 0, .int .u64 0, .int .i64 0, .int .i64 0, .int .i64 0, .bool false, .string ⟨#[]⟩, .slice none 0 0] 41))
         have HA5 := hd (ha'.alloc (.cells #[.int .i64 0, .int .i64 0, .int .i64 0, .int .i64 0, .int .u64 0, .int .i64 0, .int .i64 0, .int .i64 0, .bool false, .string ⟨#[]⟩, .slice none 0 0] 41))
         clear HACC ha' hwu hk4 HU HA HK
         obtain ⟨kg, hkg⟩ : ∃ kg, kg = w4.heap.size := ⟨_, rfl⟩
         go_upto_region 21 with fail
         generalize w4.alloc (.cells #[.int .i64 0, .int .i64 0, .int .i64 0, .int .i64 0, .int .u64 0, .int .i64 0, .int .i64 0, .int .i64 0, .bool false, .string ⟨#[]⟩, .slice none 0 0] 41) = W5 at *
         rw [← hkg] at HG5 ⊢
         clear hkg
         have hkc := HK5.out.cell
         have hgc := HG5.out.cell
         have HPQ : Hd (∀ W, Upd [] W5 W → Calls Try.prog 14 #[.pointer (some ⟨b, 0, none⟩)] W fun e w' => e = .returned (.agg #[.int .u64 1, .int .i64 3]) ∧ Upd [] W w') := hd (fun W hu => promised_any _ b _ _ W (HA5.out.later hu))
         have HLQ : Hd (∀ W, Upd [] W5 W → Calls Try.prog 20 #[.pointer (some ⟨b, 0, none⟩)] W fun r w' => ∃ v', r = .returned v' ∧ Upd [] W w' ∧ w'.ownsRow W.heap.size 85 4 v' 64 (entCells (fullList (1 + z) (keptOf wit letterA) 64))) := hd (fun W hu => by
           have := list_any _ b _ _ W (HA5.out.later hu) (by simp [fullAcc, fullList_length])
           simp only [fullAcc, fullList_length] at this
           exact this)
         have HKG := hd (fun w6 (hu : Upd [] W5 w6) => (⟨(HG5.out.upd hu (by simp)).cell 0, (HK5.out.upd hu (by simp)).cell 0, (HK5.out.upd hu (by simp)).cell 1⟩ : w6.cell? ⟨kg, 0, none⟩ = some (.int .i64 0) ∧ w6.cell? ⟨kb, 0, none⟩ = some (.int .u64 1) ∧ w6.cell? ⟨kb, 1, none⟩ = some (.int .i64 3)))
         go_region_held3 (fun w' => w'.cell? ⟨kg, 0, none⟩ = some (.int .i64 0) ∧ w'.cell? ⟨kb, 0, none⟩ = some (.int .u64 1) ∧ w'.cell? ⟨kb, 1, none⟩ = some (.int .i64 3)) (go_keep)
           (first
             | ((with_reducible refine (HPQ.out _ (Upd.refl [] W5).drew).mono ?_); rintro e w6 ⟨rfl, hu6⟩; have hu7 := (Upd.refl [] W5).drew.trans hu6; obtain ⟨s0, s1, s2⟩ := HKG.out w6 hu7; have HU7 := hd hu7; clear hu6 hu7)
             | ((with_reducible refine (HLQ.out _ HU7.out).mono ?_); rintro e w8 ⟨v', rfl, hu8, ho8⟩; obtain ⟨xa, xc, rfl, -⟩ := own_open ho8; have hu9 := HU7.out.trans hu8; obtain ⟨t0, t1, t2⟩ := HKG.out w8 hu9; have HU9 := hd hu9; clear hu8 hu9 ho8))
         go_wp2_with fail
         go_ret
         exact ⟨rfl, HU5.out.trans HU9.out⟩
       · subst hv
         have hX0 : 0 < X := by
           have := HTH.out
           have h := of_decide_eq_true this.symm
           omega
         have hXb : (X == 0) = false := by simp; omega
         obtain ⟨L, hL, hLl, hLm⟩ := full_there wit (1 + z) (keptOf wit letterA) letterB X hX0 hth
         rw [hL] at hacc
         simp only [MsgS.val, msgC, letterB] at hacc
         have hfl : (L.filter (keptBy (1 + z))).length = 63 := by rw [filter_slots L _ (1 + z) hLm, full_filter]
         have HACC := hd hacc
         have HFL := hd hfl
         have HLL := hd hLl
         clear hacc hth hL hLm hfl hLl
         go_wp2_with fail
         refine HACC.out.mono ?_
         rintro e w4 ⟨l', rfl, ha', hwu⟩
         have HU5 := hd ((upd_aside HA.out hwb (Nat.le_refl _) HU.out hwu).alloc (.cells #[.int .i64 4, .int .i64 0, .int .i64 0, .int .i64 0, .int .u64 2, .int .i64 0, .int .i64 X, .int .i64 0, .bool false, .string ⟨#[]⟩, .slice none 0 0] 41))
         have HA5 := hd (ha'.alloc (.cells #[.int .i64 4, .int .i64 0, .int .i64 0, .int .i64 0, .int .u64 2, .int .i64 0, .int .i64 X, .int .i64 0, .bool false, .string ⟨#[]⟩, .slice none 0 0] 41))
         clear HACC ha' hwu HU HA HK
         go_wp2_with fail
         refine (show Calls Try.prog 14 #[.pointer (some ⟨b, 0, none⟩)] _ fun e w' => e = .returned (.agg #[.int .u64 2, .int .i64 0]) ∧ Upd [] _ w' from promised_any _ b _ _ _ HA5.out).mono ?_
         rintro e w6 ⟨rfl, hu6⟩
         have HU6 := hd (HU5.out.trans hu6)
         have HA6 := hd (HA5.out.later hu6)
         clear hu6 HU5 HA5
         have hfd := fun W => ballot_c W 2 0
         go_wp2_with fail
         obtain ⟨d5, hd5⟩ : ∃ d5 : AccS, d5 = { fullAcc wit (1 + z) (keptOf wit letterA) 64 with bal := ⟨2, 0⟩, list := L } := ⟨_, rfl⟩
         have hdb : d5.base = 0 := by rw [hd5]; rfl
         have hdl : d5.list = L := by rw [hd5]
         have HA6' : Hd (AccAt w.heap.size w6 b l' d5) := hd (by rw [hd5]; exact HA6.out)
         have htr := trim_any w.heap.size b l' d5 (1 + z) w6 HA6'.out (by rw [hdl, HLL.out]; omega) HU6.out.size
         have e1 : d5.trim (1 + z) = { d5 with base := 1 + z, list := L.filter (keptBy (1 + z)) } := by unfold AccS.trim; rw [if_pos (by rw [hdb]; omega), hdl]
         have e2 : decide (d5.base < 1 + z) = true := decide_eq_true (by rw [hdb]; omega)
         rw [e1, e2] at htr
         clear hd5 hdb hdl e1 e2
         refine htr.mono ?_
         rintro e w7 ⟨l7, rfl, ha7, hwu7⟩
         have HU7 := hd (upd_aside HA6'.out hwb (Nat.le_refl _) HU6.out hwu7)
         have HA7 := hd ha7
         clear htr ha7 hwu7 HU6 HA6 HA6'
         go_wp2_with fail
         refine (list_any w.heap.size b l7 _ w7 HA7.out (by show (L.filter (keptBy (1 + z))).length ≤ 1024; rw [HFL.out]; omega)).mono ?_
         rintro e w8 ⟨v', rfl, hu8, ho8⟩
         have ho9 : w8.ownsRow w7.heap.size 85 4 v' 63 (entCells (L.filter (keptBy (1 + z)))) := by
           have := ho8
           simp only [HFL.out] at this
           exact this
         obtain ⟨xa, xc, rfl, -⟩ := own_open ho9
         have HU8 := hd (HU7.out.trans hu8)
         have HA8 := hd (HA7.out.later hu8)
         clear hu8 ho8 ho9 HU7 HA7
         go_wp2_with fail
         refine (base_any _ b _ _ w8 HA8.out).mono ?_
         rintro e w9 ⟨rfl, rfl⟩
         go_wp2_with fail
         go_ret
         exact ⟨rfl, HU8.out⟩
end Go.Proofs.Ytfhmdeamhmjddaa

/-
  The document's acceptor (chatelaineref16): Trim, walked. Conditions: a list of entries that lies in a row of its own.
-/
set_option linter.unusedVariables false
set_option linter.unusedSimpArgs false
set_option maxRecDepth 100000
namespace Go.Proofs.Ytfhmdeamhmjddaa
open Go.RowKit

theorem Try.infoRefEnt : (Try.prog.info? 102).map (fun i => (i.zero, i.size, i.bytes)) = some (some (.agg #[.int .i64 0, .int .u64 0, .int .i64 0, .string ⟨#[]⟩]), 4, 40) := by kernel_rfl
/-- The document's list of entries l, in a row of its own at B or behind. -/
abbrev RefRow (B : Nat) (w : World) (v : Value) (l : List EntS) : Prop := w.ownsRow B 102 4 v l.length (entCells l)

set_option maxHeartbeats 4000000 in
theorem refTrim_any (B : Nat) (d : AccS) (l : Value) (base : Int) (w : World) (h : RefRow B w l d.list) (hl : d.list.length ≤ 1024) (hB : B ≤ w.heap.size) :
    Calls Try.prog 54 #[.agg (d.cells l), .int .i64 base] w fun e w' => ∃ l', e = .returned (.agg ((d.trim base).cells l')) ∧ Upd [] w w' ∧ RefRow B w' l' (d.trim base).list := by
  obtain ⟨a, cap, rfl, hnc, hcm, hac⟩ := own_open2 h
  obtain ⟨i0, hinf, hz0, hz1, hz2⟩ := info_parts Try.infoRefEnt
  have e2 := two_new w (d.cells (.slice a d.list.length cap)) #[.bool false, .int .u64 0, .int .i64 0, .int .i64 0, .slice none 0 0, .int .i64 0, .int .i64 0] 54
  simp only [AccS.cells] at e2
  have HT := hd (show d.trim base = if d.base < base then { d with base := base, list := d.list.filter (keptBy base) } else d from rfl)
  have H := hd h
  clear h
  have hcells : d.cells (.slice a d.list.length cap) = #[.bool d.wit, .int .u64 d.bal.c, .int .i64 d.bal.n, .int .i64 d.base, .slice a d.list.length cap, .int .i64 d.node, .int .i64 d.til] := rfl
  rw [hcells]
  clear hcells
  go_enter Try.func54, Try.ntmps54
  by_cases hb : d.base < base
  · have hb' : ¬ base ≤ d.base := by omega
    go_wp2_with fail
    have H0 := hd (show w.ownsRow w.heap.size 102 4 (.slice none 0 0) 0 (entCells []) from World.ownsRow_nil _ _ _ _)
    go_loopw [5, 19] (fun s5 c wr => ∃ t : Nat, c = .int .i64 t ∧ t ≤ d.list.length ∧ Upd [] w wr ∧ wr.ownsRow w.heap.size 102 4 s5 ((d.list.take t).filter (keptBy base)).length (entCells ((d.list.take t).filter (keptBy base))) ∧
      Blk wr w.heap.size #[.bool d.wit, .int .u64 d.bal.c, .int .i64 d.bal.n, .int .i64 base, .slice a d.list.length cap, .int .i64 d.node, .int .i64 d.til] 54 ∧ Blk wr (w.heap.size + 1) #[.bool false, .int .u64 0, .int .i64 0, .int .i64 0, .slice none 0 0, .int .i64 0, .int .i64 0] 54) (fun _ c _ => d.list.length - (intOf c).toNat)
    case atStart =>
      have hu0 := Upd.refl [] w
      refine ⟨0, rfl, by omega, (by repeat (first | with_reducible exact hu0 | with_reducible exact Upd.refl _ _ | with_reducible refine Upd.alloc ?_ _ | with_reducible refine Upd.drew ?_ | with_reducible refine Upd.setCell ?_ (by first | (simp; done) | (simp; omega)) _)), ?_, ?_, ?_⟩
      · refine ⟨rfl, .inr ⟨w.heap.size + 1 + 1, 0, #[], rfl, by omega, Blk.new' _ _ _ (by simp), by simp, by unfold maxLen; omega, rfl, rfl⟩⟩
      · exact ((Blk.new w _ _).alloc _).alloc _
      · exact (Blk.new' (w.alloc _) _ _ (k := w.heap.size + 1) (by simp)).alloc _
    case round =>
      obtain ⟨t, rfl, ht, hu, hown, hk2, hk4⟩ := hrel
      have HU := hd hu
      have HO := hd hown
      have HK2 := hd hk2
      have HK4 := hd hk4
      have HR := hd (own_upd H.out hu (by simp))
      have hlw := hk4.lt
      by_cases htl : t < d.list.length
      · obtain ⟨g, cap', hge, hgB, hgl, -, hgc, hgz⟩ := own_cases HR.out (by omega)
        simp only [Value.slice.injEq] at hge
        obtain ⟨rfl, -, rfl⟩ := hge
        obtain ⟨c0, c1, c2, c3⟩ := row_cells hgc t htl
        have htl' : (t : Int) < (d.list.length : Int) := by omega
        have HK := hd (show keptBy base d.list[t] = decide (base < d.list[t].slot) from rfl)
        have HTK := hd (show (d.list.take (t + 1)).filter (keptBy base) = (d.list.take t).filter (keptBy base) ++ (if keptBy base d.list[t] = true then [d.list[t]] else []) by
          rw [List.take_succ_eq_append_getElem htl, List.filter_append]
          by_cases hk : keptBy base d.list[t] = true <;> simp [hk])
        have hlen : ((d.list.take t).filter (keptBy base)).length ≤ t := by
          have := List.length_filter_le (keptBy base) (d.list.take t)
          rw [List.length_take] at this
          omega
        clear hgc hu hown hk2 hk4
        generalize d.list[t]'_ = e at *
        generalize (d.list.take t).filter (keptBy base) = fl at *
        obtain ⟨s, ⟨c, kk⟩, tx⟩ := e
        simp only at c0 c1 c2 c3 HK
        by_cases hsb : base < s
        · have hsb' : decide (base < s) = true := decide_eq_true hsb
          go_wp2_with (at_builtin; refine wpList_append_own_at _ rfl (.tmp 27) (.tmp 29) 52 rfl w.heap.size 102 i0 _ 4 40 Try.underlying52 hinf hz0 hz1 hz2 rfl (by decide) _ fl.length (entCells fl) rfl (own_upd (L := []) HO.out (((Upd.refl _ _).alloc _).alloc _) (by simp)) ⟨wr.heap.size + 1, 0, none⟩ 1 1 [.int .i64 s, .int .u64 c, .int .i64 kk, .string tx] rfl rfl (fun j u hj => by rw [Addr.add_lit, Nat.zero_add]; rw [Blk.cell (Blk.new' (wr.alloc _) #[.int .i64 s, .int .u64 c, .int .i64 kk, .string tx] _ (k := wr.heap.size + 1) (by simp)) j]; simpa using hj) (by intro u hu; simp only [List.mem_cons, List.not_mem_nil, or_false] at hu; rcases hu with rfl | rfl | rfl | rfl <;> rfl) (by unfold maxLen; omega) (by omega) (by simp; omega) ?_)
          intro v' w' hown' hgr _ hblk
          have hw0 := HU.out.size
          have hU' := Upd.of_grown hgr
          have hne : ∀ q, u5.ownBlock = some q → w.heap.size ≤ q := fun q hq => (own_ge HO.out q hq).1
          have HUW := hd ((((HU.out.alloc _).alloc _).trans' hU' (fun q hq => .inr (hne q (by simpa using hq)))))
          have HK2' := hd (Blk.upd ((HK2.out.alloc _).alloc _) hU' (fun hm => own_ne_any HO.out HK2.out (by decide) _ (by simpa using hm) rfl))
          have HK4' := hd (Blk.upd ((HK4.out.alloc _).alloc _) hU' (fun hm => own_ne_any HO.out HK4.out (by decide) _ (by simpa using hm) rfl))
          have HOW := hd hown'
          clear hown' hgr hblk hU'
          go_wp2_with fail
          go_roundw
          case rel =>
            refine ⟨t + 1, by go_num, by omega, HUW.out, ?_, HK2'.out, HK4'.out⟩
            rw [HTK.out, if_pos (by rw [HK.out]; simpa using hsb)]
            have h2 := HOW.out
            have e3 : entCells (fl ++ [⟨s, ⟨c, kk⟩, tx⟩]) = entCells fl ++ [.int .i64 s, .int .u64 c, .int .i64 kk, .string tx] := by simp [entCells, EntS.cells]
            rw [e3, List.length_append]
            exact h2
          case measure => simp [intOf]; omega
        · have hsb' : decide (base < s) = false := decide_eq_false hsb
          go_wp2_with fail
          go_roundw
          case rel =>
            refine ⟨t + 1, by go_num, by omega, HU.out.alloc _, ?_, HK2.out.alloc _, HK4.out.alloc _⟩
            rw [HTK.out, if_neg (by rw [HK.out]; simp; omega), List.append_nil]
            exact own_upd (L := []) HO.out ((Upd.refl _ _).alloc _) (by simp)
          case measure => simp [intOf]; omega
      · obtain rfl : t = d.list.length := by omega
        rw [List.take_length] at hown
        obtain ⟨xa, xc, rfl, -⟩ := own_open hown
        have HO' := hd hown
        have hc2 := hk2.cell
        have hz2' := hk2.frozen
        have hc4 := hk4.cell
        have hz4 := hk4.frozen
        clear hu hown hk2 hk4 HO HR
        go_wp2_with fail
        refine bodyPost_ret (v := _) (by simp [results, Try.results54, go_sem, hc4]; rfl) rfl ?_
        rw [HT.out, if_pos hb]
        have hu0 := HU.out
        have hx := Upd.refl [w.heap.size, w.heap.size + 1] wr
        refine ⟨_, rfl, ?_, ?_⟩
        · exact (HU.out.trans' (L := []) (M := [w.heap.size, w.heap.size + 1]) (by repeat (first | with_reducible exact hx | with_reducible exact Upd.refl _ _ | with_reducible refine Upd.alloc ?_ _ | with_reducible refine Upd.drew ?_ | with_reducible refine Upd.setCell ?_ (by first | (simp; done) | (simp; omega)) _)) (by simp))
        · exact own_mono (own_upd (L := [w.heap.size, w.heap.size + 1]) HO'.out (by repeat (first | with_reducible exact hx | with_reducible exact Upd.refl _ _ | with_reducible refine Upd.alloc ?_ _ | with_reducible refine Upd.drew ?_ | with_reducible refine Upd.setCell ?_ (by first | (simp; done) | (simp; omega)) _)) (fun q hq => by
            have h1 := own_ne_any HO'.out HK2.out (by decide) q hq
            have h2 := own_ne_any HO'.out HK4.out (by decide) q hq
            simp [h1, h2])) hB
  · have hb' : base ≤ d.base := by omega
    go_wp2_with fail
    refine bodyPost_ret (v := .agg #[.bool d.wit, .int .u64 d.bal.c, .int .i64 d.bal.n, .int .i64 d.base, .slice a d.list.length cap, .int .i64 d.node, .int .i64 d.til]) (by simp [results, Try.results54, go_sem]) rfl ?_
    rw [HT.out, if_neg (show ¬ d.base < base by omega)]
    have hu0 := Upd.refl [] w
    exact ⟨_, rfl, (by repeat (first | with_reducible exact hu0 | with_reducible exact Upd.refl _ _ | with_reducible refine Upd.alloc ?_ _ | with_reducible refine Upd.drew ?_ | with_reducible refine Upd.setCell ?_ (by first | (simp; done) | (simp; omega)) _)), own_upd (L := []) H.out (by repeat (first | with_reducible exact hu0 | with_reducible exact Upd.refl _ _ | with_reducible refine Upd.alloc ?_ _ | with_reducible refine Upd.drew ?_ | with_reducible refine Upd.setCell ?_ (by first | (simp; done) | (simp; omega)) _)) (by simp)⟩
end Go.Proofs.Ytfhmdeamhmjddaa
