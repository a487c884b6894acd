/-
  code.Reader, walked: Read, Fail, Err, Left, take, Done. Conditions: those that each theorem states.
-/
import Derived.Test.YtjaoiaknglnomaaRef01a
set_option linter.unusedVariables false
set_option linter.unusedSimpArgs false
set_option maxRecDepth 100000
namespace Go.Proofs.Ytjaoiaknglnomaa
open Go.RowKit

/-- What is left to read, and the first error. -/
structure RdS where
  left : List UInt8
  err : Int
abbrev RdAt (w : World) (k : Nat) (r : RdS) : Prop := Blk w k #[.string (txt r.left), .int .i64 r.err] 165
def RdS.fail (r : RdS) (e : Int) : RdS := if r.err = 0 then { r with err := e } else r
def RdS.take (r : RdS) (n : Nat) : List UInt8 × RdS :=
  if r.err = 0 then (if r.left.length < n then ([], { r with err := 3 }) else (r.left.take n, ⟨r.left.drop n, 0⟩)) else ([], r)
def RdS.done (r : RdS) : RdS := if r.left = [] then r else r.fail 4

theorem txt_head (l : List UInt8) (n : Nat) (h : n ≤ l.length) : (txt l).extract 0 n = txt (l.take n) := by
  apply ByteArray.ext
  simp [txt, ByteArray.data_extract]
theorem txt_tail (l : List UInt8) (n : Nat) : (txt l).extract n l.length = txt (l.drop n) := by
  apply ByteArray.ext
  simp [txt, ByteArray.data_extract]
  rw [List.take_of_length_le (by simp)]
theorem txt_list (l : List UInt8) : (txt l).toList = l := by rw [ByteArray.toList_eq]; simp [txt]

theorem read_new (l : List UInt8) (w : World) : Calls Try.prog 79 #[.string (txt l)] w fun e w' => e = .returned (.pointer (some ⟨w.heap.size, 0, none⟩)) ∧ Upd [] w w' ∧ RdAt w' w.heap.size ⟨l, 0⟩ ∧ w.heap.size < w'.heap.size := by
  go_enter Try.func79, Try.ntmps79
  go_wp2_with fail
  go_ret
  exact ⟨rfl, (Upd.refl _ _).alloc _, Blk.new _ _ _, by simp⟩

theorem fail_rd (r : RdS) (e : Int) (k : Nat) (w : World) (h : RdAt w k r) : Calls Try.prog 100 #[.pointer (some ⟨k, 0, none⟩), .int .i64 e] w fun x w' => x = .returned (.tuple #[]) ∧ Upd [k] w w' ∧ RdAt w' k (r.fail e) := by
  have hc := h.cell
  have hz := h.frozen
  have H := hd h
  have HF := hd (show r.fail e = if r.err = 0 then { r with err := e } else r from rfl)
  clear h
  by_cases h0 : r.err = 0
  · have h0' : (r.err == 0) = true := by simpa using h0
    have H0 := hd h0
    clear h0
    go_enter Try.func100, Try.ntmps100
    go_wp2_with fail
    go_end0
    exact ⟨rfl, (Upd.refl _ _).setCell (by simp) _, by rw [HF.out, if_pos H0.out]; exact H.out.set 1 _⟩
  · have h0' : (r.err == 0) = false := by simpa using h0
    have H0 := hd h0
    clear h0
    go_enter Try.func100, Try.ntmps100
    go_wp2_with fail
    go_end0
    exact ⟨rfl, Upd.refl _ _, by rw [HF.out, if_neg H0.out]; exact H.out⟩

theorem take_rd (r : RdS) (n : Nat) (k : Nat) (w : World) (h : RdAt w k r) (hl : r.left.length ≤ 1099511627776) (hn : n ≤ 1099511627776) :
    Calls Try.prog 99 #[.pointer (some ⟨k, 0, none⟩), .int .i64 n] w fun x w' => x = .returned (.string (txt (r.take n).1)) ∧ Upd [k] w w' ∧ RdAt w' k (r.take n).2 := by
  have hc := h.cell
  have hz := h.frozen
  have H := hd h
  have HF := hd (show r.take n = if r.err = 0 then (if r.left.length < n then ([], { r with err := 3 }) else (r.left.take n, ⟨r.left.drop n, 0⟩)) else ([], r) from rfl)
  have HFA := hd (fun W (h : RdAt W k r) => fail_rd r 3 k W h)
  obtain ⟨l, e⟩ := r
  simp only at hl hc hz H HF HFA
  clear h
  by_cases hg : l.length < n
  · have hg' : (l.length : Int) < (n : Int) := by omega
    go_enter Try.func99, Try.ntmps99
    go_wp2_with fail
    refine (HFA.out w H.out).mono ?_
    rintro x w1 ⟨rfl, hu1, h1⟩
    have h1c := h1.cell
    by_cases h0 : e = 0
    · have HR := hd (show RdS.fail ⟨l, e⟩ 3 = ⟨l, 3⟩ by unfold RdS.fail; rw [if_pos h0])
      rw [HR.out] at h1c h1
      simp only at h1c
      go_wp2_with fail
      go_ret
      rw [HF.out, if_pos h0, if_pos hg]
      exact ⟨rfl, hu1, h1⟩
    · have HR := hd (show RdS.fail ⟨l, e⟩ 3 = ⟨l, e⟩ by unfold RdS.fail; rw [if_neg h0])
      rw [HR.out] at h1c h1
      simp only at h1c
      have h0' : (e == 0) = false := by simpa using h0
      have h0'' : (e != 0) = true := by simpa using h0
      go_wp2_with fail
      go_ret
      rw [HF.out, if_neg h0]
      exact ⟨rfl, hu1, h1⟩
  · have hg' : ¬ (l.length : Int) < (n : Int) := by omega
    by_cases h0 : e = 0
    · subst h0
      have hx := txt_head l n (by omega)
      have hy := txt_tail l n
      have hnl : n ≤ l.length := by omega
      have HG := hd hg
      have HR := hd (show RdS.take ⟨l, 0⟩ n = (l.take n, ⟨l.drop n, 0⟩) by unfold RdS.take; rw [if_pos rfl, if_neg hg])
      go_enter Try.func99, Try.ntmps99
      go_wp2_with fail
      go_ret
      rw [HR.out]
      exact ⟨rfl, (Upd.refl _ _).setCell (by simp) _, H.out.set 0 _⟩
    · have h0' : (e == 0) = false := by simpa using h0
      have h0'' : (e != 0) = true := by simpa using h0
      go_enter Try.func99, Try.ntmps99
      go_wp2_with fail
      go_ret
      rw [HF.out, if_neg h0]
      exact ⟨rfl, Upd.refl _ _, H.out⟩

theorem done_rd (r : RdS) (k : Nat) (w : World) (h : RdAt w k r) :
    Calls Try.prog 82 #[.pointer (some ⟨k, 0, none⟩)] w fun x w' => x = .returned (.int .i64 r.done.err) ∧ Upd [k] w w' ∧ RdAt w' k r.done := by
  have hc := h.cell
  have hz := h.frozen
  have H := hd h
  have HFA := hd (fun W (h : RdAt W k r) => fail_rd r 4 k W h)
  have HD := hd (show r.done = if r.left = [] then r else r.fail 4 from rfl)
  clear h
  by_cases h0 : r.left = []
  · have ht : (txt r.left).toList = [] := by rw [txt_list]; exact h0
    have H0 := hd h0
    clear h0
    go_enter Try.func82, Try.ntmps82
    go_wp2_with fail
    go_ret
    rw [HD.out, if_pos H0.out]
    exact ⟨rfl, Upd.refl _ _, H.out⟩
  · have ht : ¬ (txt r.left).toList = [] := by rw [txt_list]; exact h0
    have ht' : (!(txt r.left).toList.isEmpty) = true := by simpa using ht
    have H0 := hd h0
    clear h0
    go_enter Try.func82, Try.ntmps82
    go_wp2_with fail
    refine (HFA.out w H.out).mono ?_
    rintro x w1 ⟨rfl, hu1, h1⟩
    have h1c := h1.cell
    go_wp2_with fail
    go_ret
    rw [HD.out, if_neg H0.out]
    exact ⟨rfl, hu1, h1⟩
end Go.Proofs.Ytjaoiaknglnomaa
