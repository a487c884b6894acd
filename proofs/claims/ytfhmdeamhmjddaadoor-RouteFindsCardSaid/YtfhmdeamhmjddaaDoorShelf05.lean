/-
  The library's functions of strings, told of lists of bytes: Split, Count, CutPrefix, LastIndex at a slash. Condition: bytealg.MaxLen holds a number; texts of sizes that there are.
-/
import Derived.Test.YtfhmdeamhmjddaaDoorPlain05
import Derived.Test.YtfhmdeamhmjddaaDoorErr05
import Derived.Test.YtfhmdeamhmjddaaDoorShelf
set_option linter.unusedVariables false
namespace Go.Proofs.YtfhmdeamhmjddaaDoor
open Go.RowKit Go.Lib
theorem txt_raw (s : List UInt8) : (txt s).data.toList = s := by simp [txt]
theorem lib_count (s : List UInt8) (w : World) : Calls Tryd.prog 42 #[.string (txt s), .string ⟨#[47]⟩] w fun e w' => e = .returned (.int .i64 ((s.count 47 : Nat) : Int)) ∧ w = w' :=
  (Tryd.strings_Count_one (txt s) 47 w).mono fun e w' ⟨he, hw⟩ => ⟨by rw [he, txt_raw]; rfl, hw.symm⟩
theorem lib_cut (s p : List UInt8) (w : World) : Calls Tryd.prog 37 #[.string (txt s), .string (txt p)] w fun e w' => e = .returned (.tuple #[.string (txt (if p.isPrefixOf s then s.drop p.length else s)), .bool (p.isPrefixOf s)]) ∧ w = w' :=
  (Tryd.strings_CutPrefix (txt s) (txt p) w).mono fun e w' ⟨he, hw⟩ => ⟨by rw [he, txt_raw, txt_raw]; rfl, hw.symm⟩
theorem lib_split (s : List UInt8) (w : World) (hD : Door w) (hs : s.length < 4294967281) : Calls Tryd.prog 39 #[.string (txt s), .string ⟨#[47]⟩] w fun e w' =>
    e = .returned (.slice (some ⟨w.heap.size, 0, none⟩) (splitL s).length (splitL s).length) ∧ Upd [] w w' ∧ Blk w' w.heap.size (strVals (splitL s)).toArray 9 := by
  obtain ⟨_, m, hm⟩ := hD
  refine (Tryd.strings_Split (txt s) ⟨#[47]⟩ m w (by simpa using hs) hm (by decide)).mono fun e w' ⟨he, hw⟩ => ?_
  rw [countB_txt, splitB_txt _ s rfl] at hw
  rw [countB_txt, ← splitL_length] at he
  subst hw
  refine ⟨he, (Upd.refl _ _).alloc _, ?_⟩
  have := Blk.new w (List.map Value.string (List.map txt (splitL s))).toArray 9
  simpa [strVals, List.map_map, Function.comp_def] using this
theorem lib_last (s : List UInt8) (w : World) (hs : s.length < 4611686018427387904) : Calls Tryd.prog 53 #[.string (txt s), .string ⟨#[47]⟩] w fun e w' => e = .returned (.int .i64 (Lib.lastIndexByte (txt s) 47)) ∧ w = w' :=
  (Tryd.strings_LastIndex_one (txt s) ⟨#[47]⟩ rfl (by simpa using hs) w).mono fun e w' ⟨he, hw⟩ => ⟨he, hw.symm⟩
end Go.Proofs.YtfhmdeamhmjddaaDoor
