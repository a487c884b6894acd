/-
  code.Writer, on: N, B, S, Text. Condition: the sizes that each theorem states.
-/
import Derived.Test.YtjaoiaknglnomaaWm0
import Derived.Lib.AppendStr
set_option linter.unusedVariables false
set_option linter.unusedSimpArgs false
set_option maxRecDepth 100000
namespace Go.Proofs.Ytjaoiaknglnomaa
open Go.RowKit

/-- The bytes of a whole number. -/
def nBytes (x : Int) : List UInt8 := uBytes x.toNat
theorem nBytes_le (x : Int) : (nBytes x).length ≤ 9 := uBytes_le _
theorem flat_le {α : Type} (f : α → List UInt8) (h : ∀ x, (f x).length ≤ 9) (ys : List α) : (ys.flatMap f).length ≤ 9 * ys.length := by
  induction ys with
  | nil => simp
  | cons y ys ih => have := h y; simp at ih ⊢; omega

set_option maxHeartbeats 1000000 in
theorem N_any (B k ka : Nat) (xs : List Int) (v : Value) (l : List UInt8) (w : World) (hw : WrAt B w k v l) (ha : Blk w ka (xs.map fun (x : Int) => Value.int .i64 x).toArray 3) (hx : ∀ x ∈ xs, x ≤ 9223372036854775807)
    (hl : l.length + 9 * xs.length ≤ 1099511627776) (hB : B ≤ w.heap.size) :
    Calls Try.prog 93 #[.pointer (some ⟨k, 0, none⟩), .slice (some ⟨ka, 0, none⟩) xs.length xs.length] w fun e w' =>
      e = .returned (.pointer (some ⟨k, 0, none⟩)) ∧ ∃ v', WrAt B w' k v' (l ++ xs.flatMap nBytes) ∧ WrUp k v v' w w' := by
  have HINV := hd (show WrAt B w k v l ∧ WrUp k v v w w from ⟨hw, WrUp.refl _ _ _⟩)
  have hlt := hw.blk.lt
  have hka := blk_ne ha hw.blk (by decide)
  have hkv := blk_ne_own ha hw.own (by decide)
  have HA := hd ha
  have HX := hd hx
  clear hw ha hx
  go_enter Try.func93, Try.ntmps93
  go_wp2_with fail
  go_loopw [9] (fun i wr => ∃ (j : Nat) (v' : Value), j ≤ xs.length ∧ i = .int .i64 j ∧ WrAt B wr k v' (l ++ (xs.take j).flatMap nBytes) ∧ WrUp k v v' w wr) (fun i _ => xs.length - (intOf i).toNat)
  case atStart => exact ⟨0, v, Nat.zero_le _, rfl, by simpa using HINV.out⟩
  case round =>
    clear HINV
    obtain ⟨j, v', hj, rfl, hw', hu⟩ := hrel
    by_cases hjn : j < xs.length
    · have ha' := hu.blk HA.out hka hkv
      obtain ⟨x, hxe⟩ : ∃ x, xs[j]? = some x := ⟨_, List.getElem?_eq_getElem hjn⟩
      have hx64 := HX.out x (List.mem_of_getElem? hxe)
      have hcj : wr.cell? ⟨ka, j, none⟩ = some (.int .i64 x) := by rw [ha'.cell]; simp [hxe]
      have hlx := hw'.blk.lt
      have HW := hd hw'
      have HU := hd hu
      have hlen : (l ++ (xs.take j).flatMap nBytes).length ≤ l.length + 9 * j := by
        have h1 := flat_le nBytes nBytes_le (xs.take j)
        have h2 := List.length_take_le j xs
        rw [List.length_append]
        omega
      have hBw : B ≤ wr.heap.size := Nat.le_trans hB hu.upd.size
      have HN := hd (show (xs.take (j + 1)).flatMap nBytes = (xs.take j).flatMap nBytes ++ uBytes x.toNat by rw [List.take_add_one, hxe]; simp [nBytes])
      generalize (xs.take j).flatMap nBytes = L0 at *
      generalize hL : l ++ L0 = L at *
      have hL := hd hL
      clear hw' hu ha'
      go_wp2_with fail
      all_goals
        refine (U_any B k wr.heap.size [x.toNat] v' L _ ⟨HW.out.blk.alloc _, own_upd (L := []) HW.out.own ((Upd.refl _ _).alloc _) (fun _ _ => by simp)⟩
          (by
            simp only [List.map_cons, List.map_nil]
            first
              | (rw [show ((x.toNat : Nat) : Int) = 0 by omega]; exact Blk.new _ _ _)
              | (rw [show ((x.toNat : Nat) : Int) = x by omega]; exact Blk.new _ _ _))
          (fun y hy => by simp at hy; omega) (by simp; omega) (by simp; omega)).mono ?_
        rintro e w4 ⟨rfl, v4, hw4, hu4⟩
        have HW4 := hd hw4
        have HU4 := hd hu4
        clear hw4 hu4
        go_wp2_with fail
        refine ⟨⟨j + 1, v4, by omega, by go_num, ?_, HU.out.trans ⟨((Upd.refl _ _).alloc _).trans HU4.out.upd, fun g hg => (HU4.out.row g hg).imp_right (by simp; omega)⟩⟩, by simp [intOf]; omega⟩
        have h4 := HW4.out
        rw [← hL.out] at h4
        rw [HN.out]
        simpa using h4
    · go_wp2_with fail
      go_ret
      obtain rfl : j = xs.length := by omega
      rw [List.take_length] at hw'
      exact ⟨rfl, v', hw', hu⟩

/-- A truth's byte. -/
def bByte (b : Bool) : UInt8 := if b then 1 else 0

theorem Text_any (B k : Nat) (v : Value) (l : List UInt8) (w : World) (hw : WrAt B w k v l) :
    Calls Try.prog 92 #[.pointer (some ⟨k, 0, none⟩)] w fun e w' => e = .returned (.string ⟨l.toArray⟩) ∧ w' = w := by
  have hlt := hw.blk.lt
  have hc0 : w.cell? ⟨k, 0, none⟩ = some v := hw.blk.cell 0
  have HW := hd hw
  clear hw
  rcases HW.out.own.2 with ⟨hv, h0⟩ | ⟨g, cap, cur, rfl, hg1, hg, hg3, _, _, ht⟩
  · obtain rfl := List.eq_nil_of_length_eq_zero h0
    subst hv
    go_enter Try.func92, Try.ntmps92
    have hnil := run_convert_bytes_nil (P := Try.prog) w 47 _ Try.underlying47 Try.underlying5 0 0 9 Try.underlying9
    go_wp2_with fail
    go_ret
    exact ⟨rfl, rfl⟩
  · have HB := hd (show BytesAt w g 0 ⟨l.toArray⟩ from fun i hi => by
      have hi' : i < l.length := by simpa [ByteArray.size] using hi
      have h1 : cur[i]? = (u8s l)[i]? := by
        rw [← ht, List.getElem?_take, if_pos (by simpa using hi')]; simp
      rw [Nat.zero_add, Blk.cell hg i, h1]
      simp [u8s, List.getElem?_eq_getElem hi'])
    clear ht hg
    go_enter Try.func92, Try.ntmps92
    go_wp2_with (refine wpList_conv_string rfl _ _ _ _ rfl g 0 l.length cap ⟨l.toArray⟩ rfl Try.underlying47 Try.underlying5 Try.underlying9 (by simp [ByteArray.size]) HB.out ?_)
    go_ret
    exact ⟨rfl, rfl⟩

theorem strCells_u8s (s : ByteArray) : Go.Lib.strCells s = u8s s.data.toList := by
  simp [Go.Lib.strCells, u8s]

/-- The bytes of a text: its length ahead. -/
def sBytes (s : ByteArray) : List UInt8 := nBytes s.size ++ s.data.toList

end Go.Proofs.Ytjaoiaknglnomaa

/-
  code.Writer, on: S, B. Condition: the sizes that each theorem states.
-/
set_option linter.unusedVariables false
set_option linter.unusedSimpArgs false
set_option maxRecDepth 100000
namespace Go.Proofs.Ytjaoiaknglnomaa
open Go.RowKit Go.Lib

theorem size_data' (s : ByteArray) : s.data.toList.length = s.size := by rw [Array.length_toList, ByteArray.size_data]

/-- Behind an append of whatever and the store of what it gave. -/
theorem wr_pushed' {B k m : Nat} {v v' : Value} {L bs : List UInt8} {w w0 w1 : World} (hw : WrAt B w k v L) (h0 : Upd [] w w0) (hm : m = L.length + bs.length)
    (hown : w1.ownsRow B 5 1 v' m (u8s L ++ u8s bs)) (hgrow : w0.grownBy w1 v.ownBlock) (hat : ∀ g, v'.ownBlock = some g → v.ownBlock = some g ∨ w0.heap.size ≤ g) :
    WrAt B (w1.setCell ⟨k, 0, none⟩ v') k v' (L ++ bs) ∧ WrUp k v v' w (w1.setCell ⟨k, 0, none⟩ v') := by
  subst hm
  have hne := hw.ne
  have hlt := hw.blk.lt
  have hsz := h0.size
  have hb1 : Blk w1 k #[v] 154 := Blk.upd (hw.blk.upd h0 (by simp)) (Upd.of_grown hgrow) (by simpa using Ne.symm hne)
  refine ⟨⟨hb1.set 0 _, ?_⟩, ⟨?_, ?_⟩⟩
  · have h1 := own_upd (L := [k]) hown ((Upd.refl _ _).setCell (p := ⟨k, 0, none⟩) (by simp) v') (fun g hg => by
      simp only [List.mem_singleton]
      rintro rfl
      rcases hat _ hg with h1 | h1
      · exact hne h1.symm
      · omega)
    simpa [u8s_append] using h1
  · exact ((h0.mono (by simp)).trans ((Upd.of_grown hgrow).mono (by simp; grind))).setCell (by simp) _
  · intro g' hg'
    exact (hat g' hg').imp_right (by omega)

theorem run_append_str_at {P : Program} (w : World) (base : Nat) (t u ty e : TypeId) (i : TypeInfo) (ht : P.underlying t = some (.slice e)) (hu : P.underlying u = some .string) (hi : P.info? e = some i) (hz : i.zero = some (.int .u8 0))
    (hsize : i.size = 1) (hby : i.bytes = 1)
    (v : Value) (n : Nat) (xs : List Value) (hown : w.ownsRow base e 1 v n xs) (s : ByteArray)
    (h63 : n + s.size ≤ maxLen) (hbytes : n + s.size ≤ 140737488355328) (hbase : base ≤ w.heap.size) :
    ∃ v' w', (Builtin.append_ #[t, u] ty #[v, .string s]).run P w = .ok v' w' ∧ w'.ownsRow base e 1 v' (n + s.size) (xs ++ strCells s) ∧ w.grownBy w' v.ownBlock ∧
      (∀ g, v'.ownBlock = some g → v.ownBlock = some g ∨ w.heap.size ≤ g) := by
  obtain ⟨v', w', hr, h2, h3, h4⟩ := run_append_own_string (P := P) w base t u ty e i ht hu hi hz hsize hby v n xs hown s h63 hbytes hbase
  refine ⟨v', w', hr, h2, h3, fun g hg => ?_⟩
  have hsmall : n + s.size ≤ 9223372036854775807 := by simp only [maxLen] at h63; omega
  rcases hown.2 with ⟨rfl, rfl⟩ | ⟨g0, cap, cur, rfl, hbg, hg0, hnc, hcm, hcs, htake⟩
  · have hx : xs = [] := List.eq_nil_of_length_eq_zero (by simpa using hown.1)
    subst hx
    obtain ⟨v2, w2, hr2, h22, _, _⟩ := run_append_own_string (P := P) w w.heap.size t u ty e i ht hu hi hz hsize hby (.slice none 0 0) 0 [] (World.ownsRow_nil _ _ _ _) s h63 hbytes (Nat.le_refl _)
    rw [hr] at hr2
    cases hr2
    right
    rcases h22.2 with he | ⟨g1, _, _, he, hb, _⟩
    · rw [he.1] at hg; cases hg
    · rw [he] at hg
      simp only [Value.ownBlock, Option.some.injEq] at hg
      omega
  · by_cases hroom : n + s.size ≤ cap
    · have hcs' : cur.size = cap := by simpa using hcs
      have hr2 := run_append_room_string (P := P) w t u ty e i ht hu hi hsize g0 n cap cur hg0 s hroom (by omega)
      rw [hr] at hr2
      cases hr2
      exact .inl hg
    · have hxl : xs.length = n := by simpa using hown.1
      have holds : ∀ j u, xs[j]? = some u → w.cell? ((⟨g0, 0, none⟩ : Addr).add j) = some u := hown.cells (g := g0) rfl
      have hr2 := run_append_grow_string (P := P) w t u ty e i (.int .u8 0) ht hu hi hz ⟨g0, 0, none⟩ n cap xs (by rw [hsize]; simpa using hxl) holds s (by omega) (by omega) (by rw [hby]; exact growslice_fits (by omega) (by omega))
      rw [hr] at hr2
      cases hr2
      right
      simp only [Value.ownBlock, Option.some.injEq] at hg
      omega

theorem wpList_append_str_at {P : Program} {w : World} {ops : Array Oper} {rest : List Oper} {o : Oper} {a : Act} {Q : Exit → Act → World → Prop} (hgd : o.guard = none) (sl x : Operand) (t u : TypeId)
    (ho : o.op = .call { callee := .builtin .append, args := #[sl, x], argTypes := #[t, u] })
    (base : Nat) (e : TypeId) (i : TypeInfo) (ht : P.underlying t = some (.slice e)) (hu : P.underlying u = some .string) (hi : P.info? e = some i) (hz : i.zero = some (.int .u8 0))
    (hsize : i.size = 1) (hby : i.bytes = 1)
    (v : Value) (n : Nat) (xs : List Value) (hs : a.eval sl = v) (hown : w.ownsRow base e 1 v n xs) (s : ByteArray) (hx : a.eval x = .string s)
    (h63 : n + s.size ≤ maxLen) (hbytes : n + s.size ≤ 140737488355328) (hbase : base ≤ w.heap.size)
    (h : ∀ v' w', w'.ownsRow base e 1 v' (n + s.size) (xs ++ strCells s) → w.grownBy w' v.ownBlock → (∀ g, v'.ownBlock = some g → v.ownBlock = some g ∨ w.heap.size ≤ g) → wpList P ops Q rest (a.put o.dst v') w') : wpList P ops Q (o :: rest) a w := by
  refine wpList_plain hgd fun K hK => ?_
  obtain ⟨v', w', hr, h2, h3, h4⟩ := run_append_str_at (P := P) w base t u o.type e i ht hu hi hz hsize hby v n xs hown s h63 hbytes hbase
  unfold Oper.wp execOp
  simp only [ho, resolve, invoke, builtin, Sem.run_bind, Sem.run_pure, Result.andThen_ok, List.map_toArray, List.map_cons, List.map_nil, hs, hx, hr]
  exact hK _ _ (h v' w' h2 h3 h4)
theorem own_shape {w : World} {B T sz : Nat} {v : Value} {n : Nat} {xs : List Value} (h : w.ownsRow B T sz v n xs) : ∃ a c, v = .slice a n c := by
  rcases h.2 with ⟨rfl, rfl⟩ | ⟨g, cap, cur, rfl, _⟩
  · exact ⟨_, _, rfl⟩
  · exact ⟨_, _, rfl⟩
theorem flat_take {α : Type} (f : α → List UInt8) (xs : List α) (j : Nat) : ((xs.take j).flatMap f).length ≤ (xs.flatMap f).length := by
  conv => rhs; rw [← List.take_append_drop j xs, List.flatMap_append, List.length_append]
  omega

set_option maxHeartbeats 1000000 in
theorem S_any (B k ka : Nat) (xs : List ByteArray) (v : Value) (l : List UInt8) (w : World) (hw : WrAt B w k v l) (ha : Blk w ka (xs.map fun (x : ByteArray) => Value.string x).toArray 9)
    (hl : l.length + (xs.flatMap sBytes).length ≤ 1099511627000) (hB : B ≤ w.heap.size) :
    Calls Try.prog 91 #[.pointer (some ⟨k, 0, none⟩), .slice (some ⟨ka, 0, none⟩) xs.length xs.length] w fun e w' =>
      e = .returned (.pointer (some ⟨k, 0, none⟩)) ∧ ∃ v', WrAt B w' k v' (l ++ xs.flatMap sBytes) ∧ WrUp k v v' w w' := by
  have HINV := hd (show WrAt B w k v l ∧ WrUp k v v w w from ⟨hw, WrUp.refl _ _ _⟩)
  have hlt := hw.blk.lt
  have hka := blk_ne ha hw.blk (by decide)
  have hkv := blk_ne_own ha hw.own (by decide)
  have hxl : xs.length ≤ 1099511627000 := by
    have h1 : ∀ ys : List ByteArray, ys.length ≤ (ys.flatMap sBytes).length := by
      intro ys
      induction ys with
      | nil => simp
      | cons y ys ih => simp only [List.flatMap_cons, List.length_append, List.length_cons, sBytes, nBytes, uBytes] at ih ⊢; omega
    have := h1 xs
    omega
  have HA := hd ha
  clear hw ha
  go_enter Try.func91, Try.ntmps91
  go_wp2_with fail
  go_loopw [9] (fun i wr => ∃ (j : Nat) (v' : Value), j ≤ xs.length ∧ i = .int .i64 j ∧ WrAt B wr k v' (l ++ (xs.take j).flatMap sBytes) ∧ WrUp k v v' w wr) (fun i _ => xs.length - (intOf i).toNat)
  case atStart => exact ⟨0, v, Nat.zero_le _, rfl, by simpa using HINV.out⟩
  case round =>
    clear HINV
    obtain ⟨j, v', hj, rfl, hw', hu⟩ := hrel
    by_cases hjn : j < xs.length
    · have ha' := hu.blk HA.out hka hkv
      obtain ⟨x, hxe⟩ : ∃ x, xs[j]? = some x := ⟨_, List.getElem?_eq_getElem hjn⟩
      have hcj : wr.cell? ⟨ka, j, none⟩ = some (.string x) := by rw [ha'.cell]; simp [hxe]
      have hlx := hw'.blk.lt
      have HW := hd hw'
      have HU := hd hu
      have hN := (show (xs.take (j + 1)).flatMap sBytes = (xs.take j).flatMap sBytes ++ sBytes x by rw [List.take_add_one, hxe]; simp)
      have hlen : (l ++ (xs.take j).flatMap sBytes).length + x.size ≤ 1099511627000 := by
        have h1 := flat_take sBytes xs (j + 1)
        rw [hN] at h1
        simp only [sBytes, List.length_append, size_data'] at h1 hl ⊢
        omega
      have hxs : x.size ≤ 1099511627000 := by omega
      have hBw : B ≤ wr.heap.size := Nat.le_trans hB hu.upd.size
      have HN := hd hN
      clear hN
      generalize (xs.take j).flatMap sBytes = L0 at *
      generalize hL : l ++ L0 = L at *
      have hL := hd hL
      clear hw' hu ha'
      go_wp2_with fail
      refine (N_any B k wr.heap.size [(x.size : Int)] v' L _ ⟨HW.out.blk.alloc _, own_upd (L := []) HW.out.own ((Upd.refl _ _).alloc _) (fun _ _ => by simp)⟩
          (by simp only [List.map_cons, List.map_nil]; exact Blk.new _ _ _)
          (fun y hy => by simp at hy; omega) (by simp; omega) (by simp; omega)).mono ?_
      rintro e w4 ⟨rfl, v4, hw4, hu4⟩
      simp only [List.flatMap_cons, List.flatMap_nil, List.append_nil] at hw4
      have hs4 := hu4.upd.size
      have hne4 := hw4.ne
      have hl4 := hw4.blk.lt
      have hc4 : w4.cell? ⟨k, 0, none⟩ = some v4 := hw4.blk.cell 0
      have hn4 := nBytes_le (x.size : Int)
      have hlen4 : (L ++ nBytes (x.size : Int)).length + x.size ≤ 1099511627010 := by rw [List.length_append]; omega
      have hB4 : B ≤ w4.heap.size := by simp at hs4; omega
      generalize hL4 : L ++ nBytes (x.size : Int) = L4 at *
      have hL4 := hd hL4
      have HW4 := hd hw4
      have HU4 := hd hu4
      clear hw4 hu4
      obtain ⟨it, hi, hz0, hz1, hz2⟩ := u8_info
      go_wp2_with (at_builtin; refine wpList_append_str_at rfl _ _ _ _ rfl B 5 it Try.underlying47 Try.underlying9 hi hz0 hz1 hz2 v4 _ _ rfl HW4.out.own x rfl (by simp only [maxLen]; omega) (by omega) hB4 ?_; intro v5 w5 hown hgrow hat; obtain ⟨a5, c5, rfl⟩ := own_shape hown; have hq := Blk.upd HW4.out.blk (Upd.of_grown hgrow) (by simpa using Ne.symm hne4); have hqc := hq.cell 0; have hqf := hq.frozen 0; have hql := hq.lt; have HOWN := hd hown; have HGR := hd hgrow; have HAT := hd hat; clear hq hown hgrow hat)
      have h5 := wr_pushed' (bs := x.data.toList) HW4.out (Upd.refl [] _) (by rw [size_data']) (by rw [← strCells_u8s]; exact HOWN.out) HGR.out HAT.out
      refine ⟨⟨j + 1, .slice a5 (L4.length + x.size) c5, by omega, by go_num, ?_, HU.out.trans (WrUp.trans ⟨((Upd.refl _ _).alloc _).trans HU4.out.upd, fun g hg => (HU4.out.row g hg).imp_right (by simp; omega)⟩ h5.2)⟩, by simp [intOf]; omega⟩
      have e6 : L4 ++ x.data.toList = l ++ (L0 ++ sBytes x) := by rw [← hL4.out, ← hL.out]; simp [sBytes]
      rw [HN.out, ← e6]
      exact h5.1
    · go_wp2_with fail
      go_ret
      obtain rfl : j = xs.length := by omega
      rw [List.take_length] at hw'
      exact ⟨rfl, v', hw', hu⟩
end Go.Proofs.Ytjaoiaknglnomaa

/-
  chatelaineref01, walked: wide, U, N, S. Condition: the sizes that each theorem states.
-/
set_option linter.unusedVariables false
set_option linter.unusedSimpArgs false
set_option maxRecDepth 100000
namespace Go.Proofs.Ytjaoiaknglnomaa
open Go.RowKit

/-- Bytes as a text. -/
def txt (l : List UInt8) : ByteArray := ⟨l.toArray⟩
@[simp] theorem txt_size (l : List UInt8) : (txt l).size = l.length := by simp [txt, ByteArray.size]
theorem txt_append (a b : List UInt8) : txt a ++ txt b = txt (a ++ b) := by
  apply ByteArray.ext; simp [txt, ByteArray.data_append]
theorem txt_data (s : ByteArray) : txt s.data.toList = s := by apply ByteArray.ext; simp [txt]

set_option maxHeartbeats 1000000 in
theorem refwide_any (x n : Nat) (w : World) (hx : x < 18446744073709551616) (hn : n ≤ 8) :
    Calls Try.prog 71 #[.int .u64 x, .int .i64 n] w fun e w' => e = .returned (.string (txt (wideOf x n))) ∧ Upd [] w w' := by
  go_enter Try.func71, Try.ntmps71
  go_wp2_with fail
  go_loopw [0, 5, 6] (fun y s i wr => ∃ j : Nat, j ≤ n ∧ i = .int .i64 j ∧ y = .int .u64 ((x / 256 ^ j : Nat) : Int) ∧ s = .string (txt (wideOf x j)) ∧ Upd [] w wr) (fun _ _ i _ => n - (intOf i).toNat)
  case atStart => exact ⟨0, Nat.zero_le _, rfl, by simp, rfl, Upd.refl _ _⟩
  case round =>
    obtain ⟨j, hj, rfl, rfl, rfl, hu⟩ := hrel
    have HU := hd hu
    clear hu
    by_cases hjn : j < n
    · have hy : x / 256 ^ j < 18446744073709551616 := Nat.lt_of_le_of_lt (Nat.div_le_self _ _) hx
      have hdiv := hd (show (((x / 256 ^ j : Nat) : Int) / 256) = ((x / 256 ^ (j + 1) : Nat) : Int) by rw [Nat.pow_succ, ← Nat.div_div_eq_div_mul]; simp)
      generalize hye : x / 256 ^ j = y at *
      have hs : ∀ W : World, (Op.stringOp .add (txt [UInt8.ofNat y]) (txt (wideOf x j))).run Try.prog W = .ok (.string (txt (UInt8.ofNat y :: wideOf x j))) W := fun W => by
        rw [run_string_add_sum _ _ _ (by simp [wideOf_length]; omega), txt_append]; rfl
      go_wp2_with (refine wpList_conv_string rfl 47 9 5 (.tmp 15) rfl wr.heap.size 0 1 1 (txt [UInt8.ofNat y]) rfl Try.underlying47 Try.underlying5 Try.underlying9 (by simp) (fun i hi => by
        obtain rfl : i = 0 := by simpa using hi
        simp [txt]) ?_)
      refine ⟨⟨j + 1, by omega, by go_num, by rw [hdiv.out], by rw [← hye]; rfl, HU.out.alloc _⟩, by simp [intOf]; omega⟩
    · go_wp2_with fail
      go_ret
      obtain rfl : j = n := by omega
      exact ⟨rfl, HU.out⟩

theorem refU_any (x : Nat) (w : World) (hx : x < 18446744073709551616) :
    Calls Try.prog 44 #[.int .u64 x] w fun e w' => e = .returned (.string (txt (uBytes x))) ∧ Upd [] w w' := by
  obtain ⟨z, hz⟩ : ∃ z : Int, z = x := ⟨_, rfl⟩
  have H1 := refwide_any x
  rw [← hz] at H1 ⊢
  have hH := hd (show (z < 252 ∧ headOf x = (UInt8.ofNat x, 0)) ∨ (¬ z < 252 ∧ z < 65536 ∧ headOf x = (252, 2)) ∨ (¬ z < 252 ∧ ¬ z < 65536 ∧ z < 4294967296 ∧ headOf x = (253, 4)) ∨ (¬ z < 252 ∧ ¬ z < 65536 ∧ ¬ z < 4294967296 ∧ headOf x = (254, 8)) by
    unfold headOf
    split
    · exact .inl ⟨by omega, rfl⟩
    split
    · exact .inr (.inl ⟨by omega, by omega, rfl⟩)
    split
    · exact .inr (.inr (.inl ⟨by omega, by omega, by omega, rfl⟩))
    · exact .inr (.inr (.inr ⟨by omega, by omega, by omega, rfl⟩)))
  have HX := hd hx
  have H1 := hd H1
  have hs : ∀ (b : UInt8) (n : Nat) (W : World), n ≤ 8 → (Op.stringOp .add (txt [b]) (txt (wideOf x n))).run Try.prog W = .ok (.string (txt (b :: wideOf x n))) W := fun b n W hn => by
    rw [run_string_add_sum _ _ _ (by simp [wideOf_length]; omega), txt_append]; rfl
  have hs2 := fun W => hs 252 2 W (by omega)
  have hs4 := fun W => hs 253 4 W (by omega)
  have hs8 := fun W => hs 254 8 W (by omega)
  clear hz hx hs
  rcases hH.out with ⟨h, e⟩ | ⟨h, h', e⟩ | ⟨h, h', h'', e⟩ | ⟨h, h', h'', e⟩
  · have E := hd e
    clear e hH
    go_enter Try.func44, Try.ntmps44
    go_wp2_with fail
    refine (H1.out 1 _ HX.out (by omega)).mono ?_
    rintro e w1 ⟨rfl, hu⟩
    go_wp2_with fail
    go_ret
    refine ⟨?_, hu⟩
    unfold uBytes
    rw [E.out]
    simp [wideOf]
  · have E := hd e
    clear e hH
    go_enter Try.func44, Try.ntmps44
    go_wp2_with fail
    refine (H1.out 2 _ HX.out (by omega)).mono ?_
    rintro e w1 ⟨rfl, hu⟩
    go_wp2_with fail
    go_ret
    refine ⟨?_, hu⟩
    unfold uBytes
    rw [E.out, show (⟨#[252]⟩ : ByteArray) = txt [252] from rfl, txt_append]
    rfl
  · have E := hd e
    clear e hH
    go_enter Try.func44, Try.ntmps44
    go_wp2_with fail
    refine (H1.out 4 _ HX.out (by omega)).mono ?_
    rintro e w1 ⟨rfl, hu⟩
    go_wp2_with fail
    go_ret
    refine ⟨?_, hu⟩
    unfold uBytes
    rw [E.out, show (⟨#[253]⟩ : ByteArray) = txt [253] from rfl, txt_append]
    rfl
  · have E := hd e
    clear e hH
    go_enter Try.func44, Try.ntmps44
    go_wp2_with fail
    refine (H1.out 8 _ HX.out (by omega)).mono ?_
    rintro e w1 ⟨rfl, hu⟩
    go_wp2_with fail
    go_ret
    refine ⟨?_, hu⟩
    unfold uBytes
    rw [E.out, show (⟨#[254]⟩ : ByteArray) = txt [254] from rfl, txt_append]
    rfl

theorem refN_any (x : Int) (w : World) (hx : x ≤ 9223372036854775807) :
    Calls Try.prog 72 #[.int .i64 x] w fun e w' => e = .returned (.string (txt (nBytes x))) ∧ Upd [] w w' := by
  have HU := hd (refU_any x.toNat w (by omega))
  by_cases h0 : x < 0
  · rw [show ((x.toNat : Nat) : Int) = 0 by omega] at HU
    go_enter Try.func72, Try.ntmps72
    go_wp2_with fail
    refine HU.out.mono ?_
    rintro e w1 ⟨rfl, hu⟩
    go_wp2_with fail
    go_ret
    exact ⟨rfl, hu⟩
  · rw [show ((x.toNat : Nat) : Int) = x by omega] at HU
    go_enter Try.func72, Try.ntmps72
    go_wp2_with fail
    refine HU.out.mono ?_
    rintro e w1 ⟨rfl, hu⟩
    go_wp2_with fail
    go_ret
    exact ⟨rfl, hu⟩

theorem refS_any (s : ByteArray) (w : World) (hs : s.size ≤ 9223372036854775000) :
    Calls Try.prog 45 #[.string s] w fun e w' => e = .returned (.string (txt (sBytes s))) ∧ Upd [] w w' := by
  have HU := hd (refN_any s.size w (by omega))
  have hn := nBytes_le (s.size : Int)
  have hsz : (txt (nBytes (s.size : Int))).size ≤ 9 := by simpa using hn
  have HE := hd (show txt (nBytes (s.size : Int)) ++ s = txt (sBytes s) by
    unfold sBytes
    rw [← txt_append, txt_data])
  generalize txt (nBytes (s.size : Int)) = T at *
  clear hn
  go_enter Try.func45, Try.ntmps45
  go_wp2_with fail
  refine HU.out.mono ?_
  rintro e w1 ⟨rfl, hu⟩
  go_wp2_with fail
  go_ret
  rw [HE.out]
  exact ⟨rfl, hu⟩
end Go.Proofs.Ytjaoiaknglnomaa

/-
  code.Reader, walked: Read, Fail, Err, Left, take, Done. Conditions: those that each theorem states.
-/
set_option linter.unusedVariables false
set_option linter.unusedSimpArgs false
set_option maxRecDepth 100000
namespace Go.Proofs.Ytjaoiaknglnomaa
open Go.RowKit

/-- What is left to read, and the first error. -/
structure RdS where
  left : List UInt8
  err : Int
abbrev RdAt (w : World) (k : Nat) (r : RdS) : Prop := Blk w k #[.string (txt r.left), .int .i64 r.err] 165
def RdS.fail (r : RdS) (e : Int) : RdS := if r.err = 0 then { r with err := e } else r
def RdS.take (r : RdS) (n : Nat) : List UInt8 × RdS :=
  if r.err = 0 then (if r.left.length < n then ([], { r with err := 3 }) else (r.left.take n, ⟨r.left.drop n, 0⟩)) else ([], r)
def RdS.done (r : RdS) : RdS := if r.left = [] then r else r.fail 4

theorem txt_head (l : List UInt8) (n : Nat) (h : n ≤ l.length) : (txt l).extract 0 n = txt (l.take n) := by
  apply ByteArray.ext
  simp [txt, ByteArray.data_extract]
theorem txt_tail (l : List UInt8) (n : Nat) : (txt l).extract n l.length = txt (l.drop n) := by
  apply ByteArray.ext
  simp [txt, ByteArray.data_extract]
  rw [List.take_of_length_le (by simp)]
theorem txt_list (l : List UInt8) : (txt l).toList = l := by rw [ByteArray.toList_eq]; simp [txt]

theorem read_new (l : List UInt8) (w : World) : Calls Try.prog 79 #[.string (txt l)] w fun e w' => e = .returned (.pointer (some ⟨w.heap.size, 0, none⟩)) ∧ Upd [] w w' ∧ RdAt w' w.heap.size ⟨l, 0⟩ ∧ w.heap.size < w'.heap.size := by
  go_enter Try.func79, Try.ntmps79
  go_wp2_with fail
  go_ret
  exact ⟨rfl, (Upd.refl _ _).alloc _, Blk.new _ _ _, by simp⟩

theorem fail_rd (r : RdS) (e : Int) (k : Nat) (w : World) (h : RdAt w k r) : Calls Try.prog 100 #[.pointer (some ⟨k, 0, none⟩), .int .i64 e] w fun x w' => x = .returned (.tuple #[]) ∧ Upd [k] w w' ∧ RdAt w' k (r.fail e) := by
  have hc := h.cell
  have hz := h.frozen
  have H := hd h
  have HF := hd (show r.fail e = if r.err = 0 then { r with err := e } else r from rfl)
  clear h
  by_cases h0 : r.err = 0
  · have h0' : (r.err == 0) = true := by simpa using h0
    have H0 := hd h0
    clear h0
    go_enter Try.func100, Try.ntmps100
    go_wp2_with fail
    go_end0
    exact ⟨rfl, (Upd.refl _ _).setCell (by simp) _, by rw [HF.out, if_pos H0.out]; exact H.out.set 1 _⟩
  · have h0' : (r.err == 0) = false := by simpa using h0
    have H0 := hd h0
    clear h0
    go_enter Try.func100, Try.ntmps100
    go_wp2_with fail
    go_end0
    exact ⟨rfl, Upd.refl _ _, by rw [HF.out, if_neg H0.out]; exact H.out⟩

theorem take_rd (r : RdS) (n : Nat) (k : Nat) (w : World) (h : RdAt w k r) (hl : r.left.length ≤ 1099511627776) (hn : n ≤ 1099511627776) :
    Calls Try.prog 99 #[.pointer (some ⟨k, 0, none⟩), .int .i64 n] w fun x w' => x = .returned (.string (txt (r.take n).1)) ∧ Upd [k] w w' ∧ RdAt w' k (r.take n).2 := by
  have hc := h.cell
  have hz := h.frozen
  have H := hd h
  have HF := hd (show r.take n = if r.err = 0 then (if r.left.length < n then ([], { r with err := 3 }) else (r.left.take n, ⟨r.left.drop n, 0⟩)) else ([], r) from rfl)
  have HFA := hd (fun W (h : RdAt W k r) => fail_rd r 3 k W h)
  obtain ⟨l, e⟩ := r
  simp only at hl hc hz H HF HFA
  clear h
  by_cases hg : l.length < n
  · have hg' : (l.length : Int) < (n : Int) := by omega
    go_enter Try.func99, Try.ntmps99
    go_wp2_with fail
    refine (HFA.out w H.out).mono ?_
    rintro x w1 ⟨rfl, hu1, h1⟩
    have h1c := h1.cell
    by_cases h0 : e = 0
    · have HR := hd (show RdS.fail ⟨l, e⟩ 3 = ⟨l, 3⟩ by unfold RdS.fail; rw [if_pos h0])
      rw [HR.out] at h1c h1
      simp only at h1c
      go_wp2_with fail
      go_ret
      rw [HF.out, if_pos h0, if_pos hg]
      exact ⟨rfl, hu1, h1⟩
    · have HR := hd (show RdS.fail ⟨l, e⟩ 3 = ⟨l, e⟩ by unfold RdS.fail; rw [if_neg h0])
      rw [HR.out] at h1c h1
      simp only at h1c
      have h0' : (e == 0) = false := by simpa using h0
      have h0'' : (e != 0) = true := by simpa using h0
      go_wp2_with fail
      go_ret
      rw [HF.out, if_neg h0]
      exact ⟨rfl, hu1, h1⟩
  · have hg' : ¬ (l.length : Int) < (n : Int) := by omega
    by_cases h0 : e = 0
    · subst h0
      have hx := txt_head l n (by omega)
      have hy := txt_tail l n
      have hnl : n ≤ l.length := by omega
      have HG := hd hg
      have HR := hd (show RdS.take ⟨l, 0⟩ n = (l.take n, ⟨l.drop n, 0⟩) by unfold RdS.take; rw [if_pos rfl, if_neg hg])
      go_enter Try.func99, Try.ntmps99
      go_wp2_with fail
      go_ret
      rw [HR.out]
      exact ⟨rfl, (Upd.refl _ _).setCell (by simp) _, H.out.set 0 _⟩
    · have h0' : (e == 0) = false := by simpa using h0
      have h0'' : (e != 0) = true := by simpa using h0
      go_enter Try.func99, Try.ntmps99
      go_wp2_with fail
      go_ret
      rw [HF.out, if_neg h0]
      exact ⟨rfl, Upd.refl _ _, H.out⟩

theorem done_rd (r : RdS) (k : Nat) (w : World) (h : RdAt w k r) :
    Calls Try.prog 82 #[.pointer (some ⟨k, 0, none⟩)] w fun x w' => x = .returned (.int .i64 r.done.err) ∧ Upd [k] w w' ∧ RdAt w' k r.done := by
  have hc := h.cell
  have hz := h.frozen
  have H := hd h
  have HFA := hd (fun W (h : RdAt W k r) => fail_rd r 4 k W h)
  have HD := hd (show r.done = if r.left = [] then r else r.fail 4 from rfl)
  clear h
  by_cases h0 : r.left = []
  · have ht : (txt r.left).toList = [] := by rw [txt_list]; exact h0
    have H0 := hd h0
    clear h0
    go_enter Try.func82, Try.ntmps82
    go_wp2_with fail
    go_ret
    rw [HD.out, if_pos H0.out]
    exact ⟨rfl, Upd.refl _ _, H.out⟩
  · have ht : ¬ (txt r.left).toList = [] := by rw [txt_list]; exact h0
    have ht' : (!(txt r.left).toList.isEmpty) = true := by simpa using ht
    have H0 := hd h0
    clear h0
    go_enter Try.func82, Try.ntmps82
    go_wp2_with fail
    refine (HFA.out w H.out).mono ?_
    rintro x w1 ⟨rfl, hu1, h1⟩
    have h1c := h1.cell
    go_wp2_with fail
    go_ret
    rw [HD.out, if_neg H0.out]
    exact ⟨rfl, hu1, h1⟩
end Go.Proofs.Ytjaoiaknglnomaa
