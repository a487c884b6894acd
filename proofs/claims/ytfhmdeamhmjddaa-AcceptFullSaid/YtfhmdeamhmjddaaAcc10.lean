/-
  accept.Acceptor.Accept, its one contract. Conditions: an acceptor whose numbers and entries are as they may be.
-/
import Derived.Test.YtfhmdeamhmjddaaAcc9
set_option linter.unusedVariables false
set_option linter.unusedSimpArgs false
set_option maxRecDepth 100000
namespace Go.Proofs.Ytfhmdeamhmjddaa
open Go.RowKit

theorem accept_any (B b : Nat) (l : Value) (d : AccS) (m : MsgS) (ma : Option Addr) (mn mc : Nat) (w : World) (h : AccAt B w b l d) (hf : d.fine) (hm : SlotIn m.slot) (ht : m.text.size ≤ 1099511627776) (hB : B ≤ w.heap.size) :
    Calls Try.prog 17 #[.pointer (some ⟨b, 0, none⟩), m.val (.slice ma mn mc)] w fun e w' =>
      ∃ l', e = .returned (.tuple #[(d.accept m).2.1.val (.slice none 0 0), .bool (d.accept m).2.2]) ∧ AccAt B w' b l' (d.accept m).1 ∧ WrUp b l l' w w' := by
  cases hl : d.low m.bal
  case true =>
    have hr : d.accept m = (d, { kind := 5, bal := d.bal }, false) := by unfold AccS.accept; rw [if_pos hl]
    rw [hr]
    exact (accept_low_any B b l d m ma mn mc w h hl).mono fun e w' ⟨he, hu⟩ => ⟨l, he, h.later hu, ⟨hu.mono (by simp), fun g hg => .inl hg⟩⟩
  case false =>
    have hr : d.accept m = d.acceptOn m := by unfold AccS.accept; rw [if_neg (by rw [hl]; simp)]
    rw [hr]
    by_cases hab : d.base < m.slot
    · cases hth : hasSlot d.list m.slot
      case true => exact accept_there_any B b l d m ma mn mc w h hf hm ht hl hB hab hth
      case false =>
        by_cases h64 : 64 ≤ d.list.length
        · exact accept_full_any B b l d m ma mn mc w h hf hm ht hl hB hab hth h64
        · exact accept_new_any B b l d m ma mn mc w h hf hm ht hl hB hab hth h64
    · exact accept_under_any B b l d m ma mn mc w h hf hm ht hl hB hab
end Go.Proofs.Ytfhmdeamhmjddaa
