/-
  Package accept: New, the getters, low, others, refuse, promise, kept, walked. Conditions: those that each theorem states.
-/
import Derived.Test.YtfhmdeamhmjddaaAcc1
import Derived.Test.YtfhmdeamhmjddaaDigest16
set_option linter.unusedVariables false
set_option linter.unusedSimpArgs false
set_option maxRecDepth 100000
namespace Go.Proofs.Ytfhmdeamhmjddaa
open Go.RowKit

/-- A message of the program. -/
structure MsgS where
  kind : Int := 0
  frm : Int := 0
  to : Int := 0
  sub : Int := 0
  bal : BalS := ⟨0, 0⟩
  slot : Int := 0
  time : Int := 0
  okb : Bool := false
  text : ByteArray := ⟨#[]⟩
def msgC (m : MsgS) (l : Value) : Array Value := #[.int .i64 m.kind, .int .i64 m.frm, .int .i64 m.to, .int .i64 m.sub, .int .u64 m.bal.c, .int .i64 m.bal.n, .int .i64 m.slot, .int .i64 m.time, .bool m.okb, .string m.text, l]
def MsgS.val (m : MsgS) (l : Value) : Value := .agg (msgC m l)

theorem two_new (w : World) (A R : Array Value) (T : TypeId) : ∃ W, (w.alloc (.cells A T)).alloc (.cells R T) = W ∧ Upd [] w W ∧ Blk W w.heap.size A T ∧ Blk W (w.heap.size + 1) R T ∧ W.heap.size = w.heap.size + 2 :=
  ⟨_, rfl, ((Upd.refl _ _).alloc _).alloc _, (Blk.new _ _ _).alloc _, Blk.new' _ _ _ (by simp), by simp⟩

def acc0 (wit : Bool) : AccS := ⟨wit, ⟨0, 0⟩, 0, [], 0, 0⟩

theorem AccAt.upd {B b : Nat} {l : Value} {d : AccS} {L : List Nat} {w w' : World} (h : AccAt B w b l d) (hu : Upd L w w') (hb : b ∉ L) (hl : ∀ g, l.ownBlock = some g → g ∉ L) : AccAt B w' b l d :=
  ⟨h.blk.upd hu hb, own_upd h.own hu hl⟩

theorem AccAt.ne {B b : Nat} {l : Value} {d : AccS} {w : World} (h : AccAt B w b l d) : ∀ g, l.ownBlock = some g → g ≠ b := by
  intro g hg
  rcases h.own.2 with he | ⟨g', cap, cur, he, hb, hg', _⟩
  · rw [he.1] at hg; cases hg
  · rw [he] at hg
    simp only [Value.ownBlock, Option.some.injEq] at hg
    subst hg
    rintro rfl
    have := h.blk
    rw [Blk, hg'] at this
    simp at this
theorem AccAt.low {B b : Nat} {l : Value} {d : AccS} {w : World} (h : AccAt B w b l d) : ∀ g, l.ownBlock = some g → B ≤ g ∧ g < w.heap.size := by
  intro g hg
  rcases h.own.2 with he | ⟨g', cap, cur, he, hb, hg', _⟩
  · rw [he.1] at hg; cases hg
  · rw [he] at hg
    simp only [Value.ownBlock, Option.some.injEq] at hg
    subst hg
    exact ⟨hb, Blk.lt hg'⟩

theorem anew_any (wit : Bool) (w : World) : Calls Try.prog 12 #[.bool wit] w fun e w' =>
    e = .returned (.pointer (some ⟨w.heap.size, 0, none⟩)) ∧ Upd [] w w' ∧ AccAt w.heap.size w' w.heap.size (.slice none 0 0) (acc0 wit) ∧ w.heap.size < w'.heap.size := by
  go_enter Try.func12, Try.ntmps12
  go_wp2
  go_ret
  exact ⟨rfl, (Upd.refl _ _).alloc _, ⟨Blk.new _ _ _, World.ownsRow_nil _ _ _ _⟩, by simp⟩

theorem promised_any (B b : Nat) (l : Value) (d : AccS) (w : World) (h : AccAt B w b l d) :
    Calls Try.prog 14 #[.pointer (some ⟨b, 0, none⟩)] w fun e w' => e = .returned d.bal.val ∧ Upd [] w w' := by
  have hc := h.blk.cell
  have hlt := h.blk.lt
  simp only [AccS.cells] at hc
  clear h
  unfold BalS.val
  go_enter Try.func14, Try.ntmps14
  go_wp2
  refine bodyPost_ret (v := .agg #[.int .u64 d.bal.c, .int .i64 d.bal.n]) (by simp [results, Try.results14, go_sem]) rfl ?_
  exact ⟨rfl, (Upd.refl _ _).alloc _⟩
theorem base_any (B b : Nat) (l : Value) (d : AccS) (w : World) (h : AccAt B w b l d) :
    Calls Try.prog 22 #[.pointer (some ⟨b, 0, none⟩)] w fun e w' => e = .returned (.int .i64 d.base) ∧ w = w' := by
  have hc := h.blk.cell
  have hlt := h.blk.lt
  simp only [AccS.cells] at hc
  clear h
  go_enter Try.func22, Try.ntmps22
  go_wp2
  go_ret
  exact ⟨rfl, rfl⟩
theorem witness_any (B b : Nat) (l : Value) (d : AccS) (w : World) (h : AccAt B w b l d) :
    Calls Try.prog 34 #[.pointer (some ⟨b, 0, none⟩)] w fun e w' => e = .returned (.bool d.wit) ∧ w = w' := by
  have hc := h.blk.cell
  have hlt := h.blk.lt
  simp only [AccS.cells] at hc
  clear h
  go_enter Try.func34, Try.ntmps34
  go_wp2
  go_ret
  exact ⟨rfl, rfl⟩
theorem holder_any (B b : Nat) (l : Value) (d : AccS) (w : World) (h : AccAt B w b l d) (h0 : 0 ≤ d.node) (h1 : d.node < 4611686018427387904) :
    Calls Try.prog 15 #[.pointer (some ⟨b, 0, none⟩)] w fun e w' => e = .returned (.tuple #[.int .i64 (d.node - 1), .int .i64 d.til]) ∧ Upd [] w w' := by
  have hc := h.blk.cell
  have hlt := h.blk.lt
  simp only [AccS.cells] at hc
  clear h
  go_enter Try.func15, Try.ntmps15
  go_wp2
  try go_region
  try go_wp2
  go_ret2
  exact ⟨rfl, (Upd.refl _ _).drew⟩

def AccS.low (d : AccS) (b : BalS) : Bool := decide (b.cmp d.bal < 0)
theorem low_any (B b : Nat) (l : Value) (d : AccS) (x : BalS) (w : World) (h : AccAt B w b l d) :
    Calls Try.prog 38 #[.pointer (some ⟨b, 0, none⟩), x.val] w fun e w' => e = .returned (.bool (d.low x)) ∧ Upd [] w w' := by
  have HL := hd (show d.low x = decide (x.cmp d.bal < 0) from rfl)
  have HX := hd (show x.val = .agg #[.int .u64 x.c, .int .i64 x.n] from rfl)
  unfold BalS.val
  go_enter Try.func38, Try.ntmps38
  go_wp2
  have h0 : Blk (w.alloc (.cells #[.int .u64 x.c, .int .i64 x.n] 35)) w.heap.size #[.int .u64 x.c, .int .i64 x.n] 35 := Blk.new _ _ _
  have h1 : Blk (w.alloc (.cells #[.int .u64 x.c, .int .i64 x.n] 35)) b (d.cells l) 76 := h.blk.alloc _
  have hu := (Upd.refl [] w).alloc (.cells #[.int .u64 x.c, .int .i64 x.n] 35)
  generalize w.alloc (.cells #[.int .u64 x.c, .int .i64 x.n] 35) = W at *
  have hc0 : ∀ (y : Later [] W) o, y.world.cell? ⟨w.heap.size, o, none⟩ = #[Value.int .u64 x.c, .int .i64 x.n][o]? := fun y => (y.blk h0 (by simp)).cell
  have hc1 : ∀ (y : Later [] W) o, y.world.cell? ⟨b, o, none⟩ = (d.cells l)[o]? := fun y => (y.blk h1 (by simp)).cell
  simp only [AccS.cells] at hc1
  have HU := hd hu
  clear hu h0 h1
  refine wp_region_later [] (by kernel_rfl) (by kernel_rfl) ?_
  repeat (go_big_quiet_step ((go_at_call 19; refine later_call (bcompare_any x d.bal _))))
  refine wpQuiet_nil ?_
  intro W1 hu1
  go_wp2
  go_ret
  exact ⟨ret_b (by rw [HL.out]), HU.out.trans hu1⟩

def AccS.others (d : AccS) (n now : Int) : Bool := decide (d.node ≠ 0) && decide (d.node ≠ n + 1) && decide (0 < d.til - now)
theorem others_any (B b : Nat) (l : Value) (d : AccS) (n now : Int) (w : World) (h : AccAt B w b l d) (hn0 : -4611686018427387904 < n) (hn1 : n < 4611686018427387904) (hw0 : -4611686018427387904 < now) (hw1 : now < 4611686018427387904)
    (ht0 : -4611686018427387904 < d.til) (ht1 : d.til < 4611686018427387904) :
    Calls Try.prog 36 #[.pointer (some ⟨b, 0, none⟩), .int .i64 n, .int .i64 now] w fun e w' => e = .returned (.tuple #[.int .i64 (d.til - now), .bool (d.others n now)]) ∧ w = w' := by
  have hc := h.blk.cell
  have hlt := h.blk.lt
  simp only [AccS.cells] at hc
  clear h
  have HO := hd (show d.others n now = (decide (d.node ≠ 0) && decide (d.node ≠ n + 1) && decide (0 < d.til - now)) from rfl)
  go_enter Try.func36, Try.ntmps36
  have k0 : decide (d.node ≠ 0) = (d.node != 0) := by by_cases e : d.node = 0 <;> simp [e]
  by_cases h0 : d.node = 0
  · go_wp2
    go_ret2
    exact ⟨by rw [HO.out]; simp [h0], rfl⟩
  · by_cases h1 : d.node = n + 1
    · go_wp2
      go_ret2
      exact ⟨by rw [HO.out]; simp [h0, h1], rfl⟩
    · have e0 : (d.node != 0) = true := by simpa using h0
      have e1 : (d.node != n + 1) = true := by simpa using h1
      have HE := hd (show d.others n now = decide (0 < d.til - now) by rw [HO.out]; simp [h0, h1])
      clear k0 HO
      go_wp2
      go_ret2
      exact ⟨by rw [HE.out]; simp [h0, h1], rfl⟩

theorem refuse_any (B b : Nat) (l : Value) (d : AccS) (left : Int) (w : World) (h : AccAt B w b l d) :
    Calls Try.prog 37 #[.pointer (some ⟨b, 0, none⟩), .int .i64 left] w fun e w' => e = .returned (MsgS.val { kind := 5, bal := d.bal, time := left } (.slice none 0 0)) ∧ Upd [] w w' := by
  have hc := h.blk.cell
  have hlt := h.blk.lt
  simp only [AccS.cells] at hc
  clear h
  unfold MsgS.val msgC
  go_enter Try.func37, Try.ntmps37
  go_wp2
  refine bodyPost_ret (v := _) (by simp [results, Try.results37, go_sem]; rfl) rfl ?_
  exact ⟨rfl, (Upd.refl _ _).alloc _⟩

theorem kept_any (B b : Nat) (l : Value) (d : AccS) (s : ByteArray) (w : World) (h : AccAt B w b l d) (hs : s.size ≤ 9223372036854775000) :
    Calls Try.prog 42 #[.pointer (some ⟨b, 0, none⟩), .string s] w fun e w' => e = .returned (.string (if d.wit = true then digestOf s else s)) ∧ Upd [] w w' := by
  have hc := h.blk.cell
  have hlt := h.blk.lt
  simp only [AccS.cells] at hc
  clear h
  cases hw : d.wit
  · rw [hw] at hc
    go_enter Try.func42, Try.ntmps42
    go_wp2_with fail
    go_ret
    exact ⟨rfl, Upd.refl _ _⟩
  · rw [hw] at hc
    go_enter Try.func42, Try.ntmps42
    go_wp2_with ((with_reducible refine (digest_any s _ hs).mono ?_); rintro e w' ⟨rfl, hu⟩; have HU := hd hu; clear hu)
    go_ret
    exact ⟨rfl, HU.out⟩

theorem promise_any (B b : Nat) (l : Value) (d : AccS) (x : BalS) (w : World) (h : AccAt B w b l d) :
    Calls Try.prog 39 #[.pointer (some ⟨b, 0, none⟩), x.val] w fun e w' => e = .returned (.bool (!(d.bal.c == x.c && d.bal.n == x.n))) ∧ Upd [b] w w' ∧ AccAt B w' b l { d with bal := x } := by
  have hc := h.blk.cell
  have hlt := h.blk.lt
  have hz := h.blk.frozen
  have H := hd h
  simp only [AccS.cells] at hc
  clear h
  have HR := hd (show ∀ u, (!(d.bal.c == x.c && d.bal.n == x.n)) = u → Ending.returned (.bool u) = .returned (.bool (!(d.bal.c == x.c && d.bal.n == x.n))) from fun u h => by rw [h])
  unfold BalS.val
  go_enter Try.func39, Try.ntmps39
  have HU0 := Upd.refl [b] w
  go_wp2
  all_goals
    go_ret
    refine ⟨HR.out _ (by simp [*]), (by repeat (first | with_reducible exact HU0 | with_reducible exact Upd.refl _ _ | with_reducible refine Upd.alloc ?_ _ | with_reducible refine Upd.drew ?_ | with_reducible refine Upd.setCell ?_ (by first | (simp; done) | (simp; omega)) _)), ?_, ?_⟩
    · refine Blk.alloc (Blk.alloc ?_ _) _
      exact (H.out.blk.set 1 _).set 2 _
    · exact own_upd (L := [b]) H.out.own (by repeat (first | with_reducible exact HU0 | with_reducible exact Upd.refl _ _ | with_reducible refine Upd.alloc ?_ _ | with_reducible refine Upd.drew ?_ | with_reducible refine Upd.setCell ?_ (by first | (simp; done) | (simp; omega)) _)) (fun g hg => by simpa using H.out.ne g hg)
end Go.Proofs.Ytfhmdeamhmjddaa
