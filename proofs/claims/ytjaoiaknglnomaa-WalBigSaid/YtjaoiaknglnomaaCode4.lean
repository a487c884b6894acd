/-
  code.Writer, on: S, B. Condition: the sizes that each theorem states.
-/
import Derived.Test.YtjaoiaknglnomaaCode3
set_option linter.unusedVariables false
set_option linter.unusedSimpArgs false
set_option maxRecDepth 100000
namespace Go.Proofs.Ytjaoiaknglnomaa
open Go.RowKit Go.Lib

theorem size_data' (s : ByteArray) : s.data.toList.length = s.size := by rw [Array.length_toList, ByteArray.size_data]

/-- Behind an append of whatever and the store of what it gave. -/
theorem wr_pushed' {B k m : Nat} {v v' : Value} {L bs : List UInt8} {w w0 w1 : World} (hw : WrAt B w k v L) (h0 : Upd [] w w0) (hm : m = L.length + bs.length)
    (hown : w1.ownsRow B 5 1 v' m (u8s L ++ u8s bs)) (hgrow : w0.grownBy w1 v.ownBlock) (hat : ∀ g, v'.ownBlock = some g → v.ownBlock = some g ∨ w0.heap.size ≤ g) :
    WrAt B (w1.setCell ⟨k, 0, none⟩ v') k v' (L ++ bs) ∧ WrUp k v v' w (w1.setCell ⟨k, 0, none⟩ v') := by
  subst hm
  have hne := hw.ne
  have hlt := hw.blk.lt
  have hsz := h0.size
  have hb1 : Blk w1 k #[v] 154 := Blk.upd (hw.blk.upd h0 (by simp)) (Upd.of_grown hgrow) (by simpa using Ne.symm hne)
  refine ⟨⟨hb1.set 0 _, ?_⟩, ⟨?_, ?_⟩⟩
  · have h1 := own_upd (L := [k]) hown ((Upd.refl _ _).setCell (p := ⟨k, 0, none⟩) (by simp) v') (fun g hg => by
      simp only [List.mem_singleton]
      rintro rfl
      rcases hat _ hg with h1 | h1
      · exact hne h1.symm
      · omega)
    simpa [u8s_append] using h1
  · exact ((h0.mono (by simp)).trans ((Upd.of_grown hgrow).mono (by simp; grind))).setCell (by simp) _
  · intro g' hg'
    exact (hat g' hg').imp_right (by omega)

theorem run_append_str_at {P : Program} (w : World) (base : Nat) (t u ty e : TypeId) (i : TypeInfo) (ht : P.underlying t = some (.slice e)) (hu : P.underlying u = some .string) (hi : P.info? e = some i) (hz : i.zero = some (.int .u8 0))
    (hsize : i.size = 1) (hby : i.bytes = 1)
    (v : Value) (n : Nat) (xs : List Value) (hown : w.ownsRow base e 1 v n xs) (s : ByteArray)
    (h63 : n + s.size ≤ maxLen) (hbytes : n + s.size ≤ 140737488355328) (hbase : base ≤ w.heap.size) :
    ∃ v' w', (Builtin.append_ #[t, u] ty #[v, .string s]).run P w = .ok v' w' ∧ w'.ownsRow base e 1 v' (n + s.size) (xs ++ strCells s) ∧ w.grownBy w' v.ownBlock ∧
      (∀ g, v'.ownBlock = some g → v.ownBlock = some g ∨ w.heap.size ≤ g) := by
  obtain ⟨v', w', hr, h2, h3, h4⟩ := run_append_own_string (P := P) w base t u ty e i ht hu hi hz hsize hby v n xs hown s h63 hbytes hbase
  refine ⟨v', w', hr, h2, h3, fun g hg => ?_⟩
  have hsmall : n + s.size ≤ 9223372036854775807 := by simp only [maxLen] at h63; omega
  rcases hown.2 with ⟨rfl, rfl⟩ | ⟨g0, cap, cur, rfl, hbg, hg0, hnc, hcm, hcs, htake⟩
  · have hx : xs = [] := List.eq_nil_of_length_eq_zero (by simpa using hown.1)
    subst hx
    obtain ⟨v2, w2, hr2, h22, _, _⟩ := run_append_own_string (P := P) w w.heap.size t u ty e i ht hu hi hz hsize hby (.slice none 0 0) 0 [] (World.ownsRow_nil _ _ _ _) s h63 hbytes (Nat.le_refl _)
    rw [hr] at hr2
    cases hr2
    right
    rcases h22.2 with he | ⟨g1, _, _, he, hb, _⟩
    · rw [he.1] at hg; cases hg
    · rw [he] at hg
      simp only [Value.ownBlock, Option.some.injEq] at hg
      omega
  · by_cases hroom : n + s.size ≤ cap
    · have hcs' : cur.size = cap := by simpa using hcs
      have hr2 := run_append_room_string (P := P) w t u ty e i ht hu hi hsize g0 n cap cur hg0 s hroom (by omega)
      rw [hr] at hr2
      cases hr2
      exact .inl hg
    · have hxl : xs.length = n := by simpa using hown.1
      have holds : ∀ j u, xs[j]? = some u → w.cell? ((⟨g0, 0, none⟩ : Addr).add j) = some u := hown.cells (g := g0) rfl
      have hr2 := run_append_grow_string (P := P) w t u ty e i (.int .u8 0) ht hu hi hz ⟨g0, 0, none⟩ n cap xs (by rw [hsize]; simpa using hxl) holds s (by omega) (by omega) (by rw [hby]; exact growslice_fits (by omega) (by omega))
      rw [hr] at hr2
      cases hr2
      right
      simp only [Value.ownBlock, Option.some.injEq] at hg
      omega

theorem wpList_append_str_at {P : Program} {w : World} {ops : Array Oper} {rest : List Oper} {o : Oper} {a : Act} {Q : Exit → Act → World → Prop} (hgd : o.guard = none) (sl x : Operand) (t u : TypeId)
    (ho : o.op = .call { callee := .builtin .append, args := #[sl, x], argTypes := #[t, u] })
    (base : Nat) (e : TypeId) (i : TypeInfo) (ht : P.underlying t = some (.slice e)) (hu : P.underlying u = some .string) (hi : P.info? e = some i) (hz : i.zero = some (.int .u8 0))
    (hsize : i.size = 1) (hby : i.bytes = 1)
    (v : Value) (n : Nat) (xs : List Value) (hs : a.eval sl = v) (hown : w.ownsRow base e 1 v n xs) (s : ByteArray) (hx : a.eval x = .string s)
    (h63 : n + s.size ≤ maxLen) (hbytes : n + s.size ≤ 140737488355328) (hbase : base ≤ w.heap.size)
    (h : ∀ v' w', w'.ownsRow base e 1 v' (n + s.size) (xs ++ strCells s) → w.grownBy w' v.ownBlock → (∀ g, v'.ownBlock = some g → v.ownBlock = some g ∨ w.heap.size ≤ g) → wpList P ops Q rest (a.put o.dst v') w') : wpList P ops Q (o :: rest) a w := by
  refine wpList_plain hgd fun K hK => ?_
  obtain ⟨v', w', hr, h2, h3, h4⟩ := run_append_str_at (P := P) w base t u o.type e i ht hu hi hz hsize hby v n xs hown s h63 hbytes hbase
  unfold Oper.wp execOp
  simp only [ho, resolve, invoke, builtin, Sem.run_bind, Sem.run_pure, Result.andThen_ok, List.map_toArray, List.map_cons, List.map_nil, hs, hx, hr]
  exact hK _ _ (h v' w' h2 h3 h4)
theorem own_shape {w : World} {B T sz : Nat} {v : Value} {n : Nat} {xs : List Value} (h : w.ownsRow B T sz v n xs) : ∃ a c, v = .slice a n c := by
  rcases h.2 with ⟨rfl, rfl⟩ | ⟨g, cap, cur, rfl, _⟩
  · exact ⟨_, _, rfl⟩
  · exact ⟨_, _, rfl⟩
theorem flat_take {α : Type} (f : α → List UInt8) (xs : List α) (j : Nat) : ((xs.take j).flatMap f).length ≤ (xs.flatMap f).length := by
  conv => rhs; rw [← List.take_append_drop j xs, List.flatMap_append, List.length_append]
  omega

set_option maxHeartbeats 1000000 in
theorem S_any (B k ka : Nat) (xs : List ByteArray) (v : Value) (l : List UInt8) (w : World) (hw : WrAt B w k v l) (ha : Blk w ka (xs.map fun (x : ByteArray) => Value.string x).toArray 9)
    (hl : l.length + (xs.flatMap sBytes).length ≤ 1099511627000) (hB : B ≤ w.heap.size) :
    Calls Try.prog 91 #[.pointer (some ⟨k, 0, none⟩), .slice (some ⟨ka, 0, none⟩) xs.length xs.length] w fun e w' =>
      e = .returned (.pointer (some ⟨k, 0, none⟩)) ∧ ∃ v', WrAt B w' k v' (l ++ xs.flatMap sBytes) ∧ WrUp k v v' w w' := by
  have HINV := hd (show WrAt B w k v l ∧ WrUp k v v w w from ⟨hw, WrUp.refl _ _ _⟩)
  have hlt := hw.blk.lt
  have hka := blk_ne ha hw.blk (by decide)
  have hkv := blk_ne_own ha hw.own (by decide)
  have hxl : xs.length ≤ 1099511627000 := by
    have h1 : ∀ ys : List ByteArray, ys.length ≤ (ys.flatMap sBytes).length := by
      intro ys
      induction ys with
      | nil => simp
      | cons y ys ih => simp only [List.flatMap_cons, List.length_append, List.length_cons, sBytes, nBytes, uBytes] at ih ⊢; omega
    have := h1 xs
    omega
  have HA := hd ha
  clear hw ha
  go_enter Try.func91, Try.ntmps91
  go_wp2_with fail
  go_loopw [9] (fun i wr => ∃ (j : Nat) (v' : Value), j ≤ xs.length ∧ i = .int .i64 j ∧ WrAt B wr k v' (l ++ (xs.take j).flatMap sBytes) ∧ WrUp k v v' w wr) (fun i _ => xs.length - (intOf i).toNat)
  case atStart => exact ⟨0, v, Nat.zero_le _, rfl, by simpa using HINV.out⟩
  case round =>
    clear HINV
    obtain ⟨j, v', hj, rfl, hw', hu⟩ := hrel
    by_cases hjn : j < xs.length
    · have ha' := hu.blk HA.out hka hkv
      obtain ⟨x, hxe⟩ : ∃ x, xs[j]? = some x := ⟨_, List.getElem?_eq_getElem hjn⟩
      have hcj : wr.cell? ⟨ka, j, none⟩ = some (.string x) := by rw [ha'.cell]; simp [hxe]
      have hlx := hw'.blk.lt
      have HW := hd hw'
      have HU := hd hu
      have hN := (show (xs.take (j + 1)).flatMap sBytes = (xs.take j).flatMap sBytes ++ sBytes x by rw [List.take_add_one, hxe]; simp)
      have hlen : (l ++ (xs.take j).flatMap sBytes).length + x.size ≤ 1099511627000 := by
        have h1 := flat_take sBytes xs (j + 1)
        rw [hN] at h1
        simp only [sBytes, List.length_append, size_data'] at h1 hl ⊢
        omega
      have hxs : x.size ≤ 1099511627000 := by omega
      have hBw : B ≤ wr.heap.size := Nat.le_trans hB hu.upd.size
      have HN := hd hN
      clear hN
      generalize (xs.take j).flatMap sBytes = L0 at *
      generalize hL : l ++ L0 = L at *
      have hL := hd hL
      clear hw' hu ha'
      go_wp2_with fail
      refine (N_any B k wr.heap.size [(x.size : Int)] v' L _ ⟨HW.out.blk.alloc _, own_upd (L := []) HW.out.own ((Upd.refl _ _).alloc _) (fun _ _ => by simp)⟩
          (by simp only [List.map_cons, List.map_nil]; exact Blk.new _ _ _)
          (fun y hy => by simp at hy; omega) (by simp; omega) (by simp; omega)).mono ?_
      rintro e w4 ⟨rfl, v4, hw4, hu4⟩
      simp only [List.flatMap_cons, List.flatMap_nil, List.append_nil] at hw4
      have hs4 := hu4.upd.size
      have hne4 := hw4.ne
      have hl4 := hw4.blk.lt
      have hc4 : w4.cell? ⟨k, 0, none⟩ = some v4 := hw4.blk.cell 0
      have hn4 := nBytes_le (x.size : Int)
      have hlen4 : (L ++ nBytes (x.size : Int)).length + x.size ≤ 1099511627010 := by rw [List.length_append]; omega
      have hB4 : B ≤ w4.heap.size := by simp at hs4; omega
      generalize hL4 : L ++ nBytes (x.size : Int) = L4 at *
      have hL4 := hd hL4
      have HW4 := hd hw4
      have HU4 := hd hu4
      clear hw4 hu4
      obtain ⟨it, hi, hz0, hz1, hz2⟩ := u8_info
      go_wp2_with (at_builtin; refine wpList_append_str_at rfl _ _ _ _ rfl B 5 it Try.underlying47 Try.underlying9 hi hz0 hz1 hz2 v4 _ _ rfl HW4.out.own x rfl (by simp only [maxLen]; omega) (by omega) hB4 ?_; intro v5 w5 hown hgrow hat; obtain ⟨a5, c5, rfl⟩ := own_shape hown; have hq := Blk.upd HW4.out.blk (Upd.of_grown hgrow) (by simpa using Ne.symm hne4); have hqc := hq.cell 0; have hqf := hq.frozen 0; have hql := hq.lt; have HOWN := hd hown; have HGR := hd hgrow; have HAT := hd hat; clear hq hown hgrow hat)
      have h5 := wr_pushed' (bs := x.data.toList) HW4.out (Upd.refl [] _) (by rw [size_data']) (by rw [← strCells_u8s]; exact HOWN.out) HGR.out HAT.out
      refine ⟨⟨j + 1, .slice a5 (L4.length + x.size) c5, by omega, by go_num, ?_, HU.out.trans (WrUp.trans ⟨((Upd.refl _ _).alloc _).trans HU4.out.upd, fun g hg => (HU4.out.row g hg).imp_right (by simp; omega)⟩ h5.2)⟩, by simp [intOf]; omega⟩
      have e6 : L4 ++ x.data.toList = l ++ (L0 ++ sBytes x) := by rw [← hL4.out, ← hL.out]; simp [sBytes]
      rw [HN.out, ← e6]
      exact h5.1
    · go_wp2_with fail
      go_ret
      obtain rfl : j = xs.length := by omega
      rw [List.take_length] at hw'
      exact ⟨rfl, v', hw', hu⟩
end Go.Proofs.Ytjaoiaknglnomaa
