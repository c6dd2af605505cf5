/- A region that draws its order and whose callees make memory but turn nothing old: one walk, in the order of the text. Conditions: none. -/
import Derived.Test.YtmnbdphfoonleaaLib
import Derived.Deep.Quiet
namespace Go.Proofs.Ytmnbdphfoonleaa
open Go.RowKit

/-- a world that has all old blocks of w as they were. -/
structure XW (w : World) where
  v : World
  e : Ext w v
instance (w : World) : Nonempty (XW w) := ⟨⟨w, Ext.refl w⟩⟩
theorem wp_region_ext {P : Program} {id : Nat} {Q : Exit → Act → World → Prop} {a : Act} {w : World} {l : List Oper} (hm : P.follows .mixedOrders = true) (hB : Region.lexB .any l.toArray = true)
    (h : wpQuiet P l.toArray (fun w' => ∃ x : XW w, w' = x.v) (fun a' => ∀ w', (∃ x : XW w, w' = x.v) → Q .normal a' w') l a) : (Code.region id l.toArray true).wp P Q a w :=
  wp_region_quiet (C := fun w' => ∃ x : XW w, w' = x.v) hm hB ⟨⟨_, Upd.drew w _⟩, rfl⟩ (by simpa using h)
end Go.Proofs.Ytmnbdphfoonleaa
