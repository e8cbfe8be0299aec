/- DERIVED. A region that draws its order, whose own operations only read, whose callees read and MAKE memory: one walk, over the class of the worlds in which all that was is as it was. -/
import Derived.Test.YtpehpidlcdfhcaaBase
import Derived.BigQuiet
namespace Go.Proofs.Ytpehpidlcdfhcaa
open Go.RowKit

/-- a world in which all old memory is as it was -/
structure OldOf (w : World) where
  to : World
  old : Old w to

instance (w : World) : Nonempty (OldOf w) := ⟨⟨w, Keeps.refl _ _⟩⟩

theorem wp_region_quiet_old {P : Program} {id : Nat} {Q : Exit → Act → World → Prop} {a : Act} {w : World} {l : List Oper} (hm : P.follows .mixedOrders = true) (hB : Region.lexB .any l.toArray = true)
    (h : wpQuiet P l.toArray (fun w' => ∃ p : OldOf w, w' = p.to) (fun a' => ∀ w', (∃ p : OldOf w, w' = p.to) → Q .normal a' w') l a) : (Code.region id l.toArray true).wp P Q a w :=
  wp_region_quiet (C := fun w' => ∃ p : OldOf w, w' = p.to) hm hB ⟨⟨w.drew, (Keeps.refl _ _).drew⟩, rfl⟩ (by simpa using h)
theorem Calls.quiet_of_old {P : Program} {f : FuncId} {args : Array Value} {w : World} {p : OldOf w} {v : Value}
    (h : Calls P f args p.to fun e w' => e = .returned v ∧ Old p.to w') : Calls P f args p.to fun e w'' => e = .returned v ∧ ∃ q : OldOf w, w'' = q.to :=
  h.mono fun _ w'' ⟨he, hm⟩ => ⟨he, ⟨w'', p.old.trans hm⟩, rfl⟩
theorem OldOf.cell {w : World} {a : Addr} {v : Value} (h : w.cell? a = some v) : ∀ p : OldOf w, p.to.cell? a = some v := fun p => p.old.cell h (fun f => f)
end Go.Proofs.Ytpehpidlcdfhcaa
