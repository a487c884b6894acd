/-
  code.Writer, on: N, B, S, Text. Condition: the sizes that each theorem states.
-/
import Derived.Test.YtjaoiaknglnomaaCode2
import Derived.Lib.AppendStr
set_option linter.unusedVariables false
set_option linter.unusedSimpArgs false
set_option maxRecDepth 100000
namespace Go.Proofs.Ytjaoiaknglnomaa
open Go.RowKit

/-- The bytes of a whole number. -/
def nBytes (x : Int) : List UInt8 := uBytes x.toNat
theorem nBytes_le (x : Int) : (nBytes x).length ≤ 9 := uBytes_le _
theorem flat_le {α : Type} (f : α → List UInt8) (h : ∀ x, (f x).length ≤ 9) (ys : List α) : (ys.flatMap f).length ≤ 9 * ys.length := by
  induction ys with
  | nil => simp
  | cons y ys ih => have := h y; simp at ih ⊢; omega

set_option maxHeartbeats 1000000 in
theorem N_any (B k ka : Nat) (xs : List Int) (v : Value) (l : List UInt8) (w : World) (hw : WrAt B w k v l) (ha : Blk w ka (xs.map fun (x : Int) => Value.int .i64 x).toArray 3) (hx : ∀ x ∈ xs, x ≤ 9223372036854775807)
    (hl : l.length + 9 * xs.length ≤ 1099511627776) (hB : B ≤ w.heap.size) :
    Calls Try.prog 93 #[.pointer (some ⟨k, 0, none⟩), .slice (some ⟨ka, 0, none⟩) xs.length xs.length] w fun e w' =>
      e = .returned (.pointer (some ⟨k, 0, none⟩)) ∧ ∃ v', WrAt B w' k v' (l ++ xs.flatMap nBytes) ∧ WrUp k v v' w w' := by
  have HINV := hd (show WrAt B w k v l ∧ WrUp k v v w w from ⟨hw, WrUp.refl _ _ _⟩)
  have hlt := hw.blk.lt
  have hka := blk_ne ha hw.blk (by decide)
  have hkv := blk_ne_own ha hw.own (by decide)
  have HA := hd ha
  have HX := hd hx
  clear hw ha hx
  go_enter Try.func93, Try.ntmps93
  go_wp2_with fail
  go_loopw [9] (fun i wr => ∃ (j : Nat) (v' : Value), j ≤ xs.length ∧ i = .int .i64 j ∧ WrAt B wr k v' (l ++ (xs.take j).flatMap nBytes) ∧ WrUp k v v' w wr) (fun i _ => xs.length - (intOf i).toNat)
  case atStart => exact ⟨0, v, Nat.zero_le _, rfl, by simpa using HINV.out⟩
  case round =>
    clear HINV
    obtain ⟨j, v', hj, rfl, hw', hu⟩ := hrel
    by_cases hjn : j < xs.length
    · have ha' := hu.blk HA.out hka hkv
      obtain ⟨x, hxe⟩ : ∃ x, xs[j]? = some x := ⟨_, List.getElem?_eq_getElem hjn⟩
      have hx64 := HX.out x (List.mem_of_getElem? hxe)
      have hcj : wr.cell? ⟨ka, j, none⟩ = some (.int .i64 x) := by rw [ha'.cell]; simp [hxe]
      have hlx := hw'.blk.lt
      have HW := hd hw'
      have HU := hd hu
      have hlen : (l ++ (xs.take j).flatMap nBytes).length ≤ l.length + 9 * j := by
        have h1 := flat_le nBytes nBytes_le (xs.take j)
        have h2 := List.length_take_le j xs
        rw [List.length_append]
        omega
      have hBw : B ≤ wr.heap.size := Nat.le_trans hB hu.upd.size
      have HN := hd (show (xs.take (j + 1)).flatMap nBytes = (xs.take j).flatMap nBytes ++ uBytes x.toNat by rw [List.take_add_one, hxe]; simp [nBytes])
      generalize (xs.take j).flatMap nBytes = L0 at *
      generalize hL : l ++ L0 = L at *
      have hL := hd hL
      clear hw' hu ha'
      go_wp2_with fail
      all_goals
        refine (U_any B k wr.heap.size [x.toNat] v' L _ ⟨HW.out.blk.alloc _, own_upd (L := []) HW.out.own ((Upd.refl _ _).alloc _) (fun _ _ => by simp)⟩
          (by
            simp only [List.map_cons, List.map_nil]
            first
              | (rw [show ((x.toNat : Nat) : Int) = 0 by omega]; exact Blk.new _ _ _)
              | (rw [show ((x.toNat : Nat) : Int) = x by omega]; exact Blk.new _ _ _))
          (fun y hy => by simp at hy; omega) (by simp; omega) (by simp; omega)).mono ?_
        rintro e w4 ⟨rfl, v4, hw4, hu4⟩
        have HW4 := hd hw4
        have HU4 := hd hu4
        clear hw4 hu4
        go_wp2_with fail
        refine ⟨⟨j + 1, v4, by omega, by go_num, ?_, HU.out.trans ⟨((Upd.refl _ _).alloc _).trans HU4.out.upd, fun g hg => (HU4.out.row g hg).imp_right (by simp; omega)⟩⟩, by simp [intOf]; omega⟩
        have h4 := HW4.out
        rw [← hL.out] at h4
        rw [HN.out]
        simpa using h4
    · go_wp2_with fail
      go_ret
      obtain rfl : j = xs.length := by omega
      rw [List.take_length] at hw'
      exact ⟨rfl, v', hw', hu⟩

/-- A truth's byte. -/
def bByte (b : Bool) : UInt8 := if b then 1 else 0

theorem Text_any (B k : Nat) (v : Value) (l : List UInt8) (w : World) (hw : WrAt B w k v l) :
    Calls Try.prog 92 #[.pointer (some ⟨k, 0, none⟩)] w fun e w' => e = .returned (.string ⟨l.toArray⟩) ∧ w' = w := by
  have hlt := hw.blk.lt
  have hc0 : w.cell? ⟨k, 0, none⟩ = some v := hw.blk.cell 0
  have HW := hd hw
  clear hw
  rcases HW.out.own.2 with ⟨hv, h0⟩ | ⟨g, cap, cur, rfl, hg1, hg, hg3, _, _, ht⟩
  · obtain rfl := List.eq_nil_of_length_eq_zero h0
    subst hv
    go_enter Try.func92, Try.ntmps92
    have hnil := run_convert_bytes_nil (P := Try.prog) w 47 _ Try.underlying47 Try.underlying5 0 0 9 Try.underlying9
    go_wp2_with fail
    go_ret
    exact ⟨rfl, rfl⟩
  · have HB := hd (show BytesAt w g 0 ⟨l.toArray⟩ from fun i hi => by
      have hi' : i < l.length := by simpa [ByteArray.size] using hi
      have h1 : cur[i]? = (u8s l)[i]? := by
        rw [← ht, List.getElem?_take, if_pos (by simpa using hi')]; simp
      rw [Nat.zero_add, Blk.cell hg i, h1]
      simp [u8s, List.getElem?_eq_getElem hi'])
    clear ht hg
    go_enter Try.func92, Try.ntmps92
    go_wp2_with (refine wpList_conv_string rfl _ _ _ _ rfl g 0 l.length cap ⟨l.toArray⟩ rfl Try.underlying47 Try.underlying5 Try.underlying9 (by simp [ByteArray.size]) HB.out ?_)
    go_ret
    exact ⟨rfl, rfl⟩

theorem strCells_u8s (s : ByteArray) : Go.Lib.strCells s = u8s s.data.toList := by
  simp [Go.Lib.strCells, u8s]

/-- The bytes of a text: its length ahead. -/
def sBytes (s : ByteArray) : List UInt8 := nBytes s.size ++ s.data.toList

end Go.Proofs.Ytjaoiaknglnomaa
