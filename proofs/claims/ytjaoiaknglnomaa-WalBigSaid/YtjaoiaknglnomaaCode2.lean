/-
  code.Writer, on: head, U. Condition: the sizes that each theorem states.
-/
import Derived.Test.YtjaoiaknglnomaaCode1
set_option linter.unusedVariables false
set_option linter.unusedSimpArgs false
set_option maxRecDepth 100000
namespace Go.Proofs.Ytjaoiaknglnomaa
open Go.RowKit

theorem blk_ne {w : World} {a b : Nat} {c c' : Array Value} {T T' : TypeId} (h : Blk w a c T) (h' : Blk w b c' T') (hT : T ≠ T') : a ≠ b := by
  rintro rfl
  rw [Blk, h'] at h
  simp only [Option.some.injEq, Obj.cells.injEq] at h
  exact hT h.2.1.symm
theorem blk_ne_own {w : World} {B T sz k T' : Nat} {c : Array Value} {v : Value} {n : Nat} {xs : List Value} (hb : Blk w k c T') (h : w.ownsRow B T sz v n xs) (hT : T ≠ T') : some k ≠ v.ownBlock := by
  intro e
  rcases h.2 with he | ⟨g, cap, cur, he, _, hg, _⟩
  · rw [he.1] at e; cases e
  · rw [he] at e
    simp only [Value.ownBlock, Option.some.injEq] at e
    subst e
    rw [Blk, hg] at hb
    simp only [Option.some.injEq, Obj.cells.injEq] at hb
    exact hT hb.2.1
/-- A block that is neither the writer's nor its row's stays. -/
theorem WrUp.blk {k : Nat} {v v' : Value} {w w' : World} (h : WrUp k v v' w w') {b : Nat} {c : Array Value} {T : TypeId} (hb : Blk w b c T) (h1 : b ≠ k) (h2 : some b ≠ v.ownBlock) : Blk w' b c T :=
  hb.upd h.upd (by
    intro hm
    rcases List.mem_cons.1 hm with h3 | h3
    · exact h1 h3
    · exact h2 (by simpa [eq_comm] using h3))

/-- Behind an append and the store of what it gave. -/
theorem wr_pushed {B k g cap m : Nat} {v : Value} {L bs : List UInt8} {w w0 w1 : World} (hw : WrAt B w k v L) (h0 : Upd [] w w0) (hm : m = L.length + bs.length)
    (hown : w1.ownsRow B 5 1 (.slice (some ⟨g, 0, none⟩) m cap) m (u8s L ++ u8s bs)) (hgrow : w0.grownBy w1 v.ownBlock) (hat : v.ownBlock = some g ∨ g = w0.heap.size) :
    WrAt B (w1.setCell ⟨k, 0, none⟩ (.slice (some ⟨g, 0, none⟩) m cap)) k (.slice (some ⟨g, 0, none⟩) m cap) (L ++ bs) ∧ WrUp k v (.slice (some ⟨g, 0, none⟩) m cap) w (w1.setCell ⟨k, 0, none⟩ (.slice (some ⟨g, 0, none⟩) m cap)) := by
  subst hm
  have hne := hw.ne
  have hlt := hw.blk.lt
  have hsz := h0.size
  have hgk : g ≠ k := by
    rcases hat with h1 | h1
    · rintro rfl; exact hne h1.symm
    · omega
  have hb1 : Blk w1 k #[v] 154 := Blk.upd (hw.blk.upd h0 (by simp)) (Upd.of_grown hgrow) (by simpa using Ne.symm hne)
  refine ⟨⟨hb1.set 0 _, ?_⟩, ⟨?_, ?_⟩⟩
  · have h1 := own_upd (L := [k]) hown ((Upd.refl _ _).setCell (p := ⟨k, 0, none⟩) (by simp) (.slice (some ⟨g, 0, none⟩) (L.length + bs.length) cap)) (by simpa [Value.ownBlock] using hgk)
    simpa [u8s_append] using h1
  · exact ((h0.mono (by simp)).trans ((Upd.of_grown hgrow).mono (by simp; grind))).setCell (by simp) _
  · intro g' hg'
    simp only [Value.ownBlock, Option.some.injEq] at hg'
    subst hg'
    rcases hat with h1 | h1
    · exact .inl h1
    · exact .inr (by omega)

/-- The first byte of a number, and how many come behind it. -/
def headOf (x : Nat) : UInt8 × Nat := if x < 252 then (UInt8.ofNat x, 0) else if x < 65536 then (252, 2) else if x < 4294967296 then (253, 4) else (254, 8)
def uBytes (x : Nat) : List UInt8 := (headOf x).1 :: wideOf x (headOf x).2
theorem headOf_le (x : Nat) : (headOf x).2 ≤ 8 := by unfold headOf; split <;> (try split) <;> (try split) <;> simp
theorem uBytes_le (x : Nat) : (uBytes x).length ≤ 9 := by have := headOf_le x; simp [uBytes, wideOf_length]; omega

theorem head_any (x : Nat) (w : World) (hx : x < 18446744073709551616) :
    Calls Try.prog 101 #[.int .u64 x] w fun e w' => e = .returned (.tuple #[.int .u8 ((headOf x).1.toNat : Int), .int .i64 ((headOf x).2 : Int)]) ∧ w' = w := by
  obtain ⟨z, hz⟩ : ∃ z : Int, z = x := ⟨_, rfl⟩
  rw [← hz]
  have hH := hd (show (z < 252 ∧ headOf x = (UInt8.ofNat x, 0)) ∨ (¬ z < 252 ∧ z < 65536 ∧ headOf x = (252, 2)) ∨ (¬ z < 252 ∧ ¬ z < 65536 ∧ z < 4294967296 ∧ headOf x = (253, 4)) ∨ (¬ z < 252 ∧ ¬ z < 65536 ∧ ¬ z < 4294967296 ∧ headOf x = (254, 8)) by
    unfold headOf
    split
    · exact .inl ⟨by omega, rfl⟩
    split
    · exact .inr (.inl ⟨by omega, by omega, rfl⟩)
    split
    · exact .inr (.inr (.inl ⟨by omega, by omega, by omega, rfl⟩))
    · exact .inr (.inr (.inr ⟨by omega, by omega, by omega, rfl⟩)))
  have HZ := hd hz
  clear hz hx
  rcases hH.out with ⟨h, e⟩ | ⟨h, h', e⟩ | ⟨h, h', h'', e⟩ | ⟨h, h', h'', e⟩
  · have E := hd e
    clear e hH
    go_enter Try.func101, Try.ntmps101
    go_wp2_with fail
    go_ret2
    rw [E.out, HZ.out]
    exact ⟨by simp, rfl⟩
  all_goals
    have E := hd e
    clear e hH
    go_enter Try.func101, Try.ntmps101
    go_wp2_with fail
    go_ret2
    rw [E.out]
    exact ⟨rfl, rfl⟩

set_option maxHeartbeats 1000000 in
theorem U_any (B k ka : Nat) (xs : List Nat) (v : Value) (l : List UInt8) (w : World) (hw : WrAt B w k v l) (ha : Blk w ka (xs.map fun (x : Nat) => Value.int .u64 (x : Int)).toArray 52) (hx : ∀ x ∈ xs, x < 18446744073709551616)
    (hl : l.length + 9 * xs.length ≤ 1099511627776) (hB : B ≤ w.heap.size) :
    Calls Try.prog 90 #[.pointer (some ⟨k, 0, none⟩), .slice (some ⟨ka, 0, none⟩) xs.length xs.length] w fun e w' =>
      e = .returned (.pointer (some ⟨k, 0, none⟩)) ∧ ∃ v', WrAt B w' k v' (l ++ xs.flatMap uBytes) ∧ WrUp k v v' w w' := by
  have HINV := hd (show WrAt B w k v l ∧ WrUp k v v w w from ⟨hw, WrUp.refl _ _ _⟩)
  have hlt := hw.blk.lt
  have hka := blk_ne ha hw.blk (by decide)
  have hkv := blk_ne_own ha hw.own (by decide)
  have HA := hd ha
  have HX := hd hx
  clear hw ha hx
  go_enter Try.func90, Try.ntmps90
  go_wp2_with fail
  go_loopw [11] (fun i wr => ∃ (j : Nat) (v' : Value), j ≤ xs.length ∧ i = .int .i64 j ∧ WrAt B wr k v' (l ++ (xs.take j).flatMap uBytes) ∧ WrUp k v v' w wr) (fun i _ => xs.length - (intOf i).toNat)
  case atStart => exact ⟨0, v, Nat.zero_le _, rfl, by simpa using HINV.out⟩
  case round =>
    clear HINV
    obtain ⟨j, v', hj, rfl, hw', hu⟩ := hrel
    by_cases hjn : j < xs.length
    · have ha' := hu.blk HA.out hka hkv
      obtain ⟨x, hxe⟩ : ∃ x, xs[j]? = some x := ⟨_, List.getElem?_eq_getElem hjn⟩
      have hx64 := HX.out x (List.mem_of_getElem? hxe)
      have hcj : wr.cell? ⟨ka, j, none⟩ = some (.int .u64 (x : Int)) := by rw [ha'.cell]; simp [hxe]
      have hlx := hw'.blk.lt
      have hc0 : wr.cell? ⟨k, 0, none⟩ = some v' := hw'.blk.cell 0
      have HW := hd hw'
      have HU := hd hu
      have HA' := hd ha'
      clear hw' hu ha'
      go_wp2_with fail
      refine (head_any x _ hx64).mono ?_
      rintro e w2 ⟨rfl, rfl⟩
      have hne := HW.out.ne
      have hlen : (l ++ (xs.take j).flatMap uBytes).length ≤ l.length + 9 * j := by
        have h9 : ∀ ys : List Nat, (ys.flatMap uBytes).length ≤ 9 * ys.length := by
          intro ys
          induction ys with
          | nil => simp
          | cons y ys ih => have := uBytes_le y; simp at ih ⊢; omega
        have h1 := h9 (xs.take j)
        have h2 := List.length_take_le j xs
        rw [List.length_append]
        omega
      have hBw : B ≤ w2.heap.size := Nat.le_trans hB HU.out.upd.size
      obtain ⟨it, hi, hz0, hz1, hz2⟩ := u8_info
      have HN := hd (show (xs.take (j + 1)).flatMap uBytes = (xs.take j).flatMap uBytes ++ uBytes x by rw [List.take_add_one, hxe]; simp)
      generalize (xs.take j).flatMap uBytes = L0 at *
      generalize hL : l ++ L0 = L at *
      have hL := hd hL
      go_wp2_with (at_builtin; refine wpList_append_lies _ rfl _ _ _ rfl B 5 it _ 1 1 Try.underlying47 hi hz0 hz1 hz2 rfl (by omega) v' _ _ rfl (own_upd (L := []) HW.out.own ((Upd.refl _ _).alloc _) (fun _ _ => by simp)) ⟨w2.heap.size, 0, none⟩ 1 1 [_] rfl rfl (World.news_of_block (heap_alloc_new w2 _)) (by intro u hu; simp at hu; subst hu; rfl) (by omega) (by simp only [maxLen]; omega) (by omega) (by simp; omega) (w2.heap.size + 1) (by simp) ?_; intro g cap w1 hown hgrow hat hlt1; have hq := Blk.upd (HW.out.blk.alloc _) (Upd.of_grown hgrow) (by simpa using Ne.symm hne); have hqc := hq.cell 0; have hqf := hq.frozen 0; have hql := hq.lt; have HQ := hd hq; have HOWN := hd hown; have HGR := hd hgrow; have HAT := hd hat; clear hq hown hgrow hat)
      obtain ⟨hw3, hu3⟩ := wr_pushed (bs := [(headOf x).1]) HW.out ((Upd.refl [] _).alloc _) rfl HOWN.out HGR.out (by simpa using HAT.out)
      have HU3 := hd hu3
      refine (wide_any B k x (headOf x).2 _ _ _ hw3 hx64 (headOf_le x) (by simp; omega) (by have := hu3.upd.size; omega)).mono ?_
      rintro e w4 ⟨rfl, v4, hw4, hu4⟩
      have HW4 := hd hw4
      have HU4 := hd hu4
      clear hw3 hu3 hw4 hu4
      go_wp2_with fail
      refine ⟨⟨j + 1, v4, by omega, by go_num, ?_, HU.out.trans (HU3.out.trans HU4.out)⟩, by simp [intOf]; omega⟩
      have h4 := HW4.out
      rw [← hL.out] at h4
      rw [HN.out]
      simpa [uBytes] using h4
    · go_wp2_with fail
      go_ret
      obtain rfl : j = xs.length := by omega
      rw [List.take_length] at hw'
      exact ⟨rfl, v', hw', hu⟩
end Go.Proofs.Ytjaoiaknglnomaa
