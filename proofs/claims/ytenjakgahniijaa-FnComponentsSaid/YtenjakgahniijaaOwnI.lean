/- Owned slices of numbers with a bound on their blocks; marks on them. No statement is proved here. -/
import Derived.Test.YtenjakgahniijaaMark
namespace Go.Proofs.Ytenjakgahniijaa
open Go.RowKit Go.Deep
/-- The call owns the slice v of the numbers l, in a block from B on and below H. -/
def OwnI (ti : TypeId) (B : Nat) (w : World) (v : Value) (l : List Int) : Prop := Own ti B w v (ints l)
def OwnIH (ti : TypeId) (B H : Nat) (w : World) (v : Value) (l : List Int) : Prop := Own ti B w v (ints l) ∧ ∀ k, v.ownBlock = some k → k < H
theorem OwnI.toH {ti : TypeId} {B : Nat} {w : World} {v : Value} {l : List Int} (h : OwnI ti B w v l) : OwnIH ti B w.heap.size w v l := ⟨h, fun k hk => (Own.lt h k hk).2⟩
theorem OwnIH.ints {ti : TypeId} {B H : Nat} {w : World} {v : Value} {l : List Int} (h : OwnIH ti B H w v l) : Ints w v l := h.1.row
theorem OwnIH.keep {ti : TypeId} {B H : Nat} {w w' : World} {v : Value} {l : List Int} (h : OwnIH ti B H w v l) (hb : Below w.heap.size w w') : OwnIH ti B H w' v l := ⟨h.1.keep hb, h.2⟩
theorem OwnIH.chg {ti : TypeId} {B H B' H' : Nat} {w w' : World} {v : Value} {l : List Int} (h : OwnIH ti B H w v l) (hc : Chg B' H' w w') (hd : H ≤ B' ∨ H' ≤ B) : OwnIH ti B H w' v l :=
  ⟨h.1.chg hc fun k hk => by have := h.2 k hk; have := (h.1.lt k hk).1; omega, h.2⟩
end Go.Proofs.Ytenjakgahniijaa
