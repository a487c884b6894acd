/-
  errors.As at a *fault.Fault, and package fault, walked. Condition: errors.errorType holds what it is laid to hold.
-/
import Derived.Test.YtpniggmdokkkcaaGreatDoorMb0
import Derived.LaidEql
import Derived.Stop.Asserts
import Derived.RowKitTokens
set_option linter.unusedVariables false
set_option linter.unusedSimpArgs false
set_option maxRecDepth 100000
namespace Go.Proofs.YtpniggmdokkkcaaGreatDoor
open Go.RowKit Go.Extern.Stop Go.Stop Go.Extern

theorem as_nil (t : Value) (w : World) :
    Calls Tryz.prog 94 #[.nilIface, t] w fun e w' => e = .returned (.bool false) ∧ w' = w := by
  go_enter Tryz.func94, Tryz.ntmps94
  go_wp2
  go_ret
  exact ⟨rfl, rfl⟩

/-! ### CLOSED FACTS ON THE MODEL's ENTRIES FOR internal/reflectlite, at this program's types: 25: *p.E · 27: **p.E · 23: error · 45: reflectlite's rtype · 1: how many package-level variables the dump has -/
theorem as_valueOfPP (t : Addr) (w : World) : (ReflectliteValue.unpack (.iface 145 (.pointer (some t)))).run Tryz.prog w
    = .ok (.agg #[.pointer (some ⟨4, 145, none⟩), .pointer (some ⟨w.heap.size, 0, none⟩), .int .u64 150]) (w.alloc (.cells #[.pointer (some t)] 145)) := by kernel_rfl
theorem as_typePP (a : Addr) (w : World) : (ReflectliteValue.methodAny (ReflectliteValue.valueError "reflectlite.Value.Type" 0) (fun t _ _ _ => ReflectliteType.toType t) #[.agg #[.pointer (some ⟨4, 145, none⟩), .pointer (some a), .int .u64 150]]).run Tryz.prog w
    = .ok (.iface 162 (.agg #[.pointer (some ⟨4, 145, none⟩)])) w := by kernel_rfl
theorem as_methodKind (h : Value) (w : World) : (Go.method 307 162 (.agg #[h]) "Kind").run Tryz.prog w = .ok (127, h) w := by kernel_rfl
theorem as_kindPP (w : World) : ((ReflectliteType.abiMethod fun t => (fun a : Nat => Value.int IntKind.u8 (a : Int)) <$> Rtype.kind t) #[.pointer (some ⟨4, 145, none⟩)]).run Tryz.prog w = .ok (.int .u8 22) w := by kernel_rfl
theorem as_kindP (w : World) : ((ReflectliteType.abiMethod fun t => (fun a : Nat => Value.int IntKind.u8 (a : Int)) <$> Rtype.kind t) #[.pointer (some ⟨4, 137, none⟩)]).run Tryz.prog w = .ok (.int .u8 22) w := by kernel_rfl

/-! ### THE ENTRIES THAT READ OR WRITE MEMORY: laws with a premise on the cell (after Derived/Lib/ReflectliteSlice.lean's manner: each unfolding a lemma of its own, by rfl) -/
theorem rlm (z : Sem Value) (f : TypeId → Addr → Nat → Nat → Sem Value) (v : Value) :
    ReflectliteValue.method z f #[v] = (do match ← ReflectliteValue.parts v with | none => z | some (t, a, fl) => f t a fl (fl % 32)) := rfl
theorem as_partsPP (a : Addr) (w : World) : (ReflectliteValue.parts (.agg #[.pointer (some ⟨4, 145, none⟩), .pointer (some a), .int .u64 150])).run Tryz.prog w = .ok (some (145, a, 150)) w := by kernel_rfl
/-- (Value).IsNil at the Value of a **p.E that is not nil. -/
theorem as_isNilPP (a p : Addr) (W : World) (ha : W.cell? a = some (.pointer (some p))) :
    (ReflectliteValue.method (ReflectliteValue.valueError "reflectlite.Value.IsNil" 0) ReflectliteValue.isNil #[.agg #[.pointer (some ⟨4, 145, none⟩), .pointer (some a), .int .u64 150]]).run Tryz.prog W = .ok (.bool false) W := by
  rw [rlm]
  simp only [Sem.run_bind, as_partsPP, Result.andThen]
  simp [ReflectliteValue.isNil, loadVar, isAgg, underlying, Tryz.underlying145, ha, Result.andThen]

theorem as_methodElem (h : Value) (w : World) : (Go.method 307 162 (.agg #[h]) "Elem").run Tryz.prog w = .ok (139, .agg #[h]) w := by kernel_rfl
theorem as_methodImplements (h : Value) (w : World) : (Go.method 307 162 (.agg #[h]) "Implements").run Tryz.prog w = .ok (140, .agg #[h]) w := by kernel_rfl
theorem as_methodAssignableTo (h : Value) (w : World) : (Go.method 307 162 (.agg #[h]) "AssignableTo").run Tryz.prog w = .ok (137, .agg #[h]) w := by kernel_rfl
theorem as_elemPP (w : World) : (ReflectliteType.method ReflectliteType.elem #[.agg #[.pointer (some ⟨4, 145, none⟩)]]).run Tryz.prog w = .ok (.iface 162 (.agg #[.pointer (some ⟨4, 137, none⟩)])) w := by kernel_rfl
theorem as_implementsP (w : World) : (ReflectliteType.relation "Implements" ReflectliteType.implements_ #[.agg #[.pointer (some ⟨4, 137, none⟩)], .iface 162 (.agg #[.pointer (some ⟨4, 87, none⟩)])]).run Tryz.prog w = .ok (.bool true) w := by kernel_rfl
theorem as_typeOfP (v : Value) (w : World) : (ReflectliteType.typeOf #[.iface 137 v]).run Tryz.prog w = .ok (.iface 162 (.agg #[.pointer (some ⟨4, 137, none⟩)])) w := by kernel_rfl
theorem as_assignableP (w : World) : (ReflectliteType.relation "AssignableTo" ReflectliteType.assignableTo #[.agg #[.pointer (some ⟨4, 137, none⟩)], .iface 162 (.agg #[.pointer (some ⟨4, 137, none⟩)])]).run Tryz.prog w = .ok (.bool true) w := by kernel_rfl
theorem as_valueOfP (e : Addr) (w : World) : (ReflectliteValue.unpack (.iface 137 (.pointer (some e)))).run Tryz.prog w
    = .ok (.agg #[.pointer (some ⟨4, 137, none⟩), .pointer (some ⟨w.heap.size, 0, none⟩), .int .u64 150]) (w.alloc (.cells #[.pointer (some e)] 137)) := by kernel_rfl

theorem as_elemOfPP (w : World) : (Rtype.elem? 145).run Tryz.prog w = .ok (some 137) w := by kernel_rfl
theorem as_mkP (p : Addr) (w : World) : (ReflectliteValue.mk 137 p ReflectliteValue.flagAddr).run Tryz.prog w = .ok (.agg #[.pointer (some ⟨4, 137, none⟩), .pointer (some p), .int .u64 406]) w := by kernel_rfl
/-- (Value).Elem at the Value of a **p.E that is not nil: the Value of the *p.E variable that it points to, addressable. -/
theorem as_elemVPP (a p : Addr) (W : World) (ha : W.cell? a = some (.pointer (some p))) :
    (ReflectliteValue.method (ReflectliteValue.valueError "reflectlite.Value.Elem" 0) ReflectliteValue.elem #[.agg #[.pointer (some ⟨4, 145, none⟩), .pointer (some a), .int .u64 150]]).run Tryz.prog W
      = .ok (.agg #[.pointer (some ⟨4, 137, none⟩), .pointer (some p), .int .u64 406]) W := by
  rw [rlm]
  simp only [Sem.run_bind, as_partsPP, Result.andThen]
  simp [ReflectliteValue.elem, loadVar, isAgg, underlying, Tryz.underlying145, ha, Result.andThen, as_elemOfPP, as_mkP]
theorem rls (v x : Value) : ReflectliteValue.set #[v, x] = (do
    let (some (dst, a, fl), some (src, b, _)) := (← ReflectliteValue.parts v, ← ReflectliteValue.parts x)
      | unsupported (.noEntry "extern/(internal/reflectlite.Value).Set.zeroValue")
    if fl / ReflectliteValue.flagAddr % 2 == 0 then unsupported (.noEntry "extern/(internal/reflectlite.Value).Set.unaddressable")
    let val ← loadVar src b
    if ← Rtype.directlyAssignable dst src then storeVar dst a val
    else if ← Rtype.implements dst src then
      if (← Rtype.kind src) == 20 then
        match val with
        | .nilIface => unsupported (.noEntry "extern/reflectlite: a nil value of one interface type handed on as a value of another")
        | _ => storeVar dst a val
      else storeVar dst a (.iface src val)
    else panicString ("reflectlite.Set: value of type " ++ (← Rtype.spelt src) ++ " is not assignable to type " ++ (← Rtype.spelt dst))
    pure (.tuple #[])) := rfl
theorem as_partsPa (a : Addr) (w : World) : (ReflectliteValue.parts (.agg #[.pointer (some ⟨4, 137, none⟩), .pointer (some a), .int .u64 406])).run Tryz.prog w = .ok (some (137, a, 406)) w := by kernel_rfl
theorem as_partsP (a : Addr) (w : World) : (ReflectliteValue.parts (.agg #[.pointer (some ⟨4, 137, none⟩), .pointer (some a), .int .u64 150])).run Tryz.prog w = .ok (some (137, a, 150)) w := by kernel_rfl
theorem as_directP (w : World) : (Rtype.directlyAssignable 137 137).run Tryz.prog w = .ok true w := by kernel_rfl
theorem as_sizeP (w : World) : (sizeOf 137).run Tryz.prog w = .ok 1 w := by kernel_rfl
/-- (Value).Set: the *p.E variable at 'ta' gets what the Value's own variable 'b' holds. -/
theorem as_setP (ta b e : Addr) (old : Value) (W : World) (hb : W.cell? b = some (.pointer (some e))) (ht : W.cell? ta = some old) (hf : W.frozen? ta = false) :
    (ReflectliteValue.set #[.agg #[.pointer (some ⟨4, 137, none⟩), .pointer (some ta), .int .u64 406], .agg #[.pointer (some ⟨4, 137, none⟩), .pointer (some b), .int .u64 150]]).run Tryz.prog W
      = .ok (.tuple #[]) (W.setCell ta (.pointer (some e))) := by
  rw [rls]
  simp only [Sem.run_bind, as_partsPa, as_partsP, Result.andThen]
  simp [ReflectliteValue.flagAddr, loadVar, isAgg, underlying, Tryz.underlying137, hb, Result.andThen, as_directP, storeVar, Value.cells, storeCells, Addr.add]
  rw [run_store Tryz.prog W ta _ _ (by rfl)]
  simp [ht, hf]

set_option maxHeartbeats 4000000 in
theorem as_hit (e t : Addr) (old : Value) (w : World) (hg : w.cell? ⟨1, 0, none⟩ = some (.iface 162 (.agg #[.pointer (some ⟨4, 87, none⟩)]))) (ht0 : w.cell? t = some old) (hf0 : w.frozen? t = false) :
    Calls Tryz.prog 94 #[.iface 137 (.pointer (some e)), .iface 145 (.pointer (some t))] w fun ev w' => ev = .returned (.bool true) ∧ w' = ((((w.alloc (.cells #[.pointer (some t)] 145)).alloc (.cells #[.pointer (some ⟨4, 145, none⟩), .pointer (some ⟨w.heap.size, 0, none⟩), .int .u64 150] 152)).alloc (.cells #[.pointer (some ⟨4, 145, none⟩), .pointer (some ⟨w.heap.size, 0, none⟩), .int .u64 150] 152)).alloc (.cells #[.pointer (some e)] 137)).setCell t (.pointer (some e)) := by
  have h6 := @run_callFunc_extern Tryz.prog 99 _ (fun args => ReflectliteValue.unpack (args.getD 0 (.tuple #[]))) Tryz.func99 (by kernel_rfl) (by kernel_rfl) (by kernel_rfl) (by kernel_rfl)
  have h7 := @run_callFunc_extern Tryz.prog 100 _ (ReflectliteValue.methodAny (ReflectliteValue.valueError "reflectlite.Value.Type" 0) (fun t _ _ _ => ReflectliteType.toType t)) Tryz.func100 (by kernel_rfl) (by kernel_rfl) (by kernel_rfl) (by kernel_rfl)
  have h8 := @run_callFunc_extern Tryz.prog 101 _ (ReflectliteValue.method (ReflectliteValue.valueError "reflectlite.Value.IsNil" 0) ReflectliteValue.isNil) Tryz.func101 (by kernel_rfl) (by kernel_rfl) (by kernel_rfl) (by kernel_rfl)
  have h27 := @run_callFunc_extern Tryz.prog 127 _ (ReflectliteType.abiMethod fun t => do pure (.int .u8 (← Rtype.kind t))) Tryz.func127 (by kernel_rfl) (by kernel_rfl) (by kernel_rfl) (by kernel_rfl)
  have h37 := @run_callFunc_extern Tryz.prog 139 _ (ReflectliteType.method ReflectliteType.elem) Tryz.func139 (by kernel_rfl) (by kernel_rfl) (by kernel_rfl) (by kernel_rfl)
  have h38 := @run_callFunc_extern Tryz.prog 140 _ (ReflectliteType.relation "Implements" ReflectliteType.implements_) Tryz.func140 (by kernel_rfl) (by kernel_rfl) (by kernel_rfl) (by kernel_rfl)
  have h10 := @run_callFunc_extern Tryz.prog 108 _ ReflectliteType.typeOf Tryz.func108 (by kernel_rfl) (by kernel_rfl) (by kernel_rfl) (by kernel_rfl)
  have h35 := @run_callFunc_extern Tryz.prog 137 _ (ReflectliteType.relation "AssignableTo" ReflectliteType.assignableTo) Tryz.func137 (by kernel_rfl) (by kernel_rfl) (by kernel_rfl) (by kernel_rfl)
  have h11 := @run_callFunc_extern Tryz.prog 109 _ (ReflectliteValue.method (ReflectliteValue.valueError "reflectlite.Value.Elem" 0) ReflectliteValue.elem) Tryz.func109 (by kernel_rfl) (by kernel_rfl) (by kernel_rfl) (by kernel_rfl)
  have h12 := @run_callFunc_extern Tryz.prog 110 _ ReflectliteValue.set Tryz.func110 (by kernel_rfl) (by kernel_rfl) (by kernel_rfl) (by kernel_rfl)
  have tO := as_typeOfP
  have mA := as_methodAssignableTo
  have a25 := as_assignableP
  have v25 := as_valueOfP
  have f6 := as_valueOfPP
  have f7 := as_typePP
  have mK := as_methodKind
  have mE := as_methodElem
  have mI := as_methodImplements
  have k27 := as_kindPP
  have k25 := as_kindP
  have e27 := as_elemPP
  have i25 := as_implementsP
  have n8 := as_isNilPP ⟨w.heap.size, 0, none⟩ t ((w.alloc (.cells #[.pointer (some t)] 145)).alloc (.cells #[.pointer (some ⟨4, 145, none⟩), .pointer (some ⟨w.heap.size, 0, none⟩), .int .u64 150] 152)) (by simp)
  have hlt : 1 < w.heap.size := by
    have := World.block_lt_of_cell? w _ hg
    exact this
  have hg2 : ((w.alloc (.cells #[.pointer (some t)] 145)).alloc (.cells #[.pointer (some ⟨4, 145, none⟩), .pointer (some ⟨w.heap.size, 0, none⟩), .int .u64 150] 152)).cell? ⟨1, 0, none⟩ = some (.iface 162 (.agg #[.pointer (some ⟨4, 87, none⟩)])) := by
    rw [World.cell?_alloc_lt _ _ ⟨1, 0, none⟩ (by have h0 := hlt; first | (simp; done) | (simp; omega)), World.cell?_alloc_lt _ _ ⟨1, 0, none⟩ hlt]; exact hg
  have htl : t.block < w.heap.size := by
    rcases Nat.lt_or_ge t.block w.heap.size with h | h
    · exact h
    · simp [World.cell?, Array.getElem?_eq_none h] at ht0
  have el := as_elemVPP ⟨w.heap.size, 0, none⟩ t (((w.alloc (.cells #[.pointer (some t)] 145)).alloc (.cells #[.pointer (some ⟨4, 145, none⟩), .pointer (some ⟨w.heap.size, 0, none⟩), .int .u64 150] 152)).alloc (.cells #[.pointer (some ⟨4, 145, none⟩), .pointer (some ⟨w.heap.size, 0, none⟩), .int .u64 150] 152)) (by rw [World.cell?_alloc_lt _ _ ⟨w.heap.size, 0, none⟩ (by simp; omega)]; simp)
  have st := as_setP t ⟨w.heap.size + 1 + 1 + 1, 0, none⟩ e old ((((w.alloc (.cells #[.pointer (some t)] 145)).alloc (.cells #[.pointer (some ⟨4, 145, none⟩), .pointer (some ⟨w.heap.size, 0, none⟩), .int .u64 150] 152)).alloc (.cells #[.pointer (some ⟨4, 145, none⟩), .pointer (some ⟨w.heap.size, 0, none⟩), .int .u64 150] 152)).alloc (.cells #[.pointer (some e)] 137))
    (by rw [World.cell?_alloc_at _ _ _ _ (by simp)]; rfl)
    (by rw [World.cell?_alloc_lt _ _ t (by simp; omega), World.cell?_alloc_lt _ _ t (by simp; omega), World.cell?_alloc_lt _ _ t (by simp; omega), World.cell?_alloc_lt _ _ t htl]; exact ht0)
    (by rw [World.frozen?_alloc_old _ _ t (by simp; omega), World.frozen?_alloc_old _ _ t (by simp; omega), World.frozen?_alloc_old _ _ t (by simp; omega), World.frozen?_alloc_old _ _ t (Nat.ne_of_lt htl)]; exact hf0)
  go_enter Tryz.func94, Tryz.ntmps94
  go_wp2
  refine wp_loop_rounds 1 ?_
  rw [rounds_succ]
  go_wp2
  go_ret
  exact ⟨rfl, rfl⟩
end Go.Proofs.YtpniggmdokkkcaaGreatDoor

/-
  Package fault: errors that bear a number, walked: Of, New, Wrap, Code, Trail. Condition: errors.errorType and bytealg.MaxLen hold what they are laid to hold.
-/
set_option linter.unusedVariables false
set_option linter.unusedSimpArgs false
set_option maxRecDepth 100000
namespace Go.Proofs.YtpniggmdokkkcaaGreatDoor
open Go.RowKit Go.Extern.Stop Go.Stop Go.Extern

/-- What the library's variables hold. -/
def Door (w : World) : Prop := w.cell? ⟨1, 0, none⟩ = some (.iface 162 (.agg #[.pointer (some ⟨4, 87, none⟩)])) ∧ ∃ m : Int, w.cell? ⟨0, 0, none⟩ = some (.int .i64 m)
theorem cell_lt' {w : World} {a : Addr} {v : Value} (h : w.cell? a = some v) : a.block < w.heap.size := World.block_lt_of_cell? w _ h
theorem Door.upd {L : List Nat} {w w' : World} (h : Door w) (hu : Upd L w w') (h0 : 1 ∉ L) (h1 : 0 ∉ L) : Door w' := by
  obtain ⟨ha, m, hb⟩ := h
  exact ⟨(World.cell?_of_block (hu.block _ (cell_lt' ha) h0)).trans ha, m, (World.cell?_of_block (hu.block _ (cell_lt' hb) h1)).trans hb⟩
theorem Door.later {w w' : World} (h : Door w) (hu : Upd [] w w') : Door w' := h.upd hu (by simp) (by simp)

/-- An error: its codes and places, from without. -/
def ErrAt (w : World) : Value → List (Int × List UInt8) → Prop
  | v, [] => v = .nilIface
  | v, (c, s) :: r => ∃ k u, v = .iface 137 (.pointer (some ⟨k, 0, none⟩)) ∧ Blk w k #[.int .i64 c, .string (txt s), u] 140 ∧ ErrAt w u r
theorem ErrAt.upd {w w' : World} (hu : Upd [] w w') : ∀ {l : List (Int × List UInt8)} {v : Value}, ErrAt w v l → ErrAt w' v l
  | [], _, h => h
  | (_, _) :: _, _, ⟨k, u, h1, h2, h3⟩ => ⟨k, u, h1, h2.upd hu (by simp), ErrAt.upd hu h3⟩
theorem ErrAt.keep {Ls : List Nat} {w w' : World} (hu : Upd Ls w w') (hn : ∀ k c, Blk w k c 140 → k ∉ Ls) : ∀ {l : List (Int × List UInt8)} {v : Value}, ErrAt w v l → ErrAt w' v l
  | [], _, h => h
  | (_, _) :: _, _, ⟨k, u, h1, h2, h3⟩ => ⟨k, u, h1, h2.upd hu (hn _ _ h2), ErrAt.keep hu hn h3⟩
def codeOf : List (Int × List UInt8) → Int
  | [] => 0
  | (c, _) :: _ => c
/-- The places that are told. -/
def trailOf : List (Int × List UInt8) → List (List UInt8)
  | [] => []
  | (_, s) :: r => if s = [] then trailOf r else s :: trailOf r

theorem assertUnwrap (v : Value) (w : World) : (Instr.typeAssert (.iface 137 v) 87 170 true).run Tryz.prog w = .ok (.tuple #[.iface 137 v, .bool true]) w := run_typeAssert_hasB Tryz.underlying170 (by kernel_rfl) v 87 w
theorem assertFault (v : Value) (w : World) : (Instr.typeAssert (.iface 137 v) 87 137 true).run Tryz.prog w = .ok (.tuple #[v, .bool true]) w := by kernel_rfl
theorem methodUnwrap (h : Value) (w : World) : (Go.method 307 137 h "Unwrap").run Tryz.prog w = .ok (132, h) w := by kernel_rfl

theorem fnew_any (c : Int) (s : List UInt8) (w : World) (hc : c ≠ 0) :
    Calls Tryz.prog 89 #[.int .i64 c, .string (txt s)] w fun e w' => ∃ v, e = .returned v ∧ Upd [] w w' ∧ ErrAt w' v [(c, s)] := by
  have hc' : (c == 0) = false := by simpa using hc
  go_enter Tryz.func89, Tryz.ntmps89
  go_wp2_with fail
  go_ret
  exact ⟨_, rfl, (Upd.refl _ _).alloc _, _, _, rfl, Blk.new _ _ _, rfl⟩
theorem fof_any (c : Int) (w : World) (hc : c ≠ 0) :
    Calls Tryz.prog 80 #[.int .i64 c] w fun e w' => ∃ v, e = .returned v ∧ Upd [] w w' ∧ ErrAt w' v [(c, [])] := by
  go_enter Tryz.func80, Tryz.ntmps80
  go_wp2_with fail
  refine (fnew_any c [] w hc).mono ?_
  rintro e w1 ⟨v, rfl, hu, hv⟩
  go_wp2_with fail
  go_ret
  exact ⟨_, rfl, hu, hv⟩
theorem funwrap_any (k : Nat) (c : Value) (s : Value) (u : Value) (w : World) (h : Blk w k #[c, s, u] 140) :
    Calls Tryz.prog 132 #[.pointer (some ⟨k, 0, none⟩)] w fun e w' => e = .returned u ∧ w = w' := by
  have hc := h.cell
  go_enter Tryz.func132, Tryz.ntmps132
  go_wp2_with fail
  go_ret
  exact ⟨rfl, rfl⟩
set_option maxHeartbeats 4000000 in
theorem fcode_any (v : Value) (l : List (Int × List UInt8)) (w : World) (hD : Door w) (h : ErrAt w v l) :
    Calls Tryz.prog 88 #[v] w fun e w' => e = .returned (.int .i64 (codeOf l)) ∧ Upd [] w w' := by
  match l, h with
  | [], h =>
    obtain rfl : v = .nilIface := h
    go_enter Tryz.func88, Tryz.ntmps88
    go_wp2_with fail
    go_ret
    exact ⟨rfl, Upd.refl _ _⟩
  | (c, s) :: r, ⟨k, u, hv, hb, hr⟩ =>
    subst hv
    have hk := hb.lt
    have hA := hd (as_hit ⟨k, 0, none⟩ ⟨w.heap.size, 0, none⟩ (.pointer none) (w.alloc (.cells #[.pointer none] 137)) (by rw [World.cell?_alloc_lt _ _ ⟨1, 0, none⟩ (cell_lt' hD.1)]; exact hD.1) (by simp) (by simp))
    have HB := hd hb
    clear hb hr hD
    go_enter Tryz.func88, Tryz.ntmps88
    go_wp2_with fail
    refine hA.out.mono ?_
    rintro e w1 ⟨rfl, hw⟩
    have hu1 : Upd [] w w1 := by
      rw [hw]
      exact ((((((Upd.refl [] w).alloc _).alloc _).alloc _).alloc _).alloc _).setCell (by simp) _
    have hc1 : w1.cell? ⟨w.heap.size, 0, none⟩ = some (.pointer (some ⟨k, 0, none⟩)) := by
      rw [hw]
      refine World.cell?_setCell_same (u := .pointer none) _ _ _ ?_
      rw [World.cell?_alloc_lt _ _ ⟨w.heap.size, 0, none⟩ (by simp; omega), World.cell?_alloc_lt _ _ ⟨w.heap.size, 0, none⟩ (by simp; omega), World.cell?_alloc_lt _ _ ⟨w.heap.size, 0, none⟩ (by simp; omega), World.cell?_alloc_lt _ _ ⟨w.heap.size, 0, none⟩ (by simp)]
      simp
    have HU1 := hd hu1
    have hb1 := (HB.out.upd hu1 (by simp)).cell
    clear hw hu1 hA
    go_wp2_with fail
    go_ret
    exact ⟨rfl, HU1.out⟩
theorem fwrap_any (v : Value) (c : Int) (s : List UInt8) (r : List (Int × List UInt8)) (t : List UInt8) (w : World) (hD : Door w) (h : ErrAt w v ((c, s) :: r)) :
    Calls Tryz.prog 79 #[v, .string (txt t)] w fun e w' => ∃ v', e = .returned v' ∧ Upd [] w w' ∧ ErrAt w' v' ((c, t) :: (c, s) :: r) := by
  have HC := hd (fcode_any v _ w hD h)
  have HE := hd h
  obtain ⟨k, u, rfl, -, -⟩ := h
  go_enter Tryz.func79, Tryz.ntmps79
  go_wp2_with fail
  refine HC.out.mono ?_
  rintro e w1 ⟨rfl, hu⟩
  go_wp2_with fail
  go_ret
  exact ⟨_, rfl, hu.alloc _, _, _, rfl, Blk.new _ _ _, HE.out.upd (hu.alloc _)⟩
theorem ErrAt.shape {w : World} {v : Value} : ∀ {l : List (Int × List UInt8)}, ErrAt w v l → v = .nilIface ∨ ∃ k, v = .iface 137 (.pointer (some ⟨k, 0, none⟩))
  | [], h => .inl h
  | _ :: _, ⟨k, _, h, _⟩ => .inr ⟨k, h⟩

theorem ErrAt.same {w : World} : ∀ {l m : List (Int × List UInt8)} {v : Value}, ErrAt w v l → ErrAt w v m → l.length = m.length
  | [], [], _, _, _ => rfl
  | [], (c, s) :: r, v, h, ⟨k, u, h1, _, _⟩ => by
    obtain rfl : v = .nilIface := h
    cases h1
  | (c, s) :: r, [], v, ⟨k, u, h1, _, _⟩, h => by
    obtain rfl : v = .nilIface := h
    cases h1
  | (c, s) :: r, (c', s') :: r', v, ⟨k, u, h1, h2, h3⟩, ⟨k', u', h1', h2', h3'⟩ => by
    rw [h1] at h1'
    simp only [Value.iface.injEq, Value.pointer.injEq, Option.some.injEq, Addr.mk.injEq, and_true, true_and] at h1'
    subst h1'
    rw [Blk, h2] at h2'
    simp only [Option.some.injEq, Obj.cells.injEq] at h2'
    have hu : u = u' := by
      have := h2'.1
      simp at this
      exact this.2.2
    subst hu
    have := ErrAt.same h3 h3'
    simp [this]
/-- How many errors hang on one another. -/
noncomputable def lenOf (w : World) (v : Value) : Nat := by
  classical
  exact if h : ∃ r, ErrAt w v r then h.choose.length else 0
theorem lenOf_eq {w : World} {v : Value} {r : List (Int × List UInt8)} (h : ErrAt w v r) : lenOf w v = r.length := by
  unfold lenOf
  have hx : ∃ r, ErrAt w v r := ⟨r, h⟩
  rw [dif_pos hx]
  exact hx.choose_spec.same h

end Go.Proofs.YtpniggmdokkkcaaGreatDoor
