/- Owned slices of numbers with a bound on their blocks; marks on them. No statement is proved here. -/
import Derived.Test.YtacgnbbogjdfkaaMark
namespace Go.Proofs.Ytacgnbbogjdfkaa
open Go.RowKit Go.Deep
/-- The call owns the slice v of the numbers l, in a block from B on and below H. -/
def OwnI (ti : TypeId) (B : Nat) (w : World) (v : Value) (l : List Int) : Prop := Own ti B w v (ints l)
def OwnIH (ti : TypeId) (B H : Nat) (w : World) (v : Value) (l : List Int) : Prop := Own ti B w v (ints l) ∧ ∀ k, v.ownBlock = some k → k < H
theorem OwnI.toH {ti : TypeId} {B : Nat} {w : World} {v : Value} {l : List Int} (h : OwnI ti B w v l) : OwnIH ti B w.heap.size w v l := ⟨h, fun k hk => (Own.lt h k hk).2⟩
theorem OwnIH.ints {ti : TypeId} {B H : Nat} {w : World} {v : Value} {l : List Int} (h : OwnIH ti B H w v l) : Ints w v l := h.1.row
theorem OwnIH.keep {ti : TypeId} {B H : Nat} {w w' : World} {v : Value} {l : List Int} (h : OwnIH ti B H w v l) (hb : Below w.heap.size w w') : OwnIH ti B H w' v l := ⟨h.1.keep hb, h.2⟩
theorem OwnIH.chg {ti : TypeId} {B H B' H' : Nat} {w w' : World} {v : Value} {l : List Int} (h : OwnIH ti B H w v l) (hc : Chg B' H' w w') (hd : H ≤ B' ∨ H' ≤ B) : OwnIH ti B H w' v l :=
  ⟨h.1.chg hc fun k hk => by have := h.2 k hk; have := (h.1.lt k hk).1; omega, h.2⟩
theorem toIntSH (v : Value) (l : List Int) (w : World) (h : Ints w v l) (hs : l.length ≤ 1048576) :
    Calls Try.prog 66 #[v] w fun e w' => ∃ v', e = .returned v' ∧ OwnI 3 w.heap.size w' v' l ∧ Below w.heap.size w w' := toIntS v l w h hs
theorem markIntSH (B H : Nat) (v : Value) (l : List Int) (k : Int) (w : World) (h : OwnIH 3 B H w v l) (hn : l.length ≤ 4000000) (h0 : 0 ≤ k) (h1 : k ≤ 4000000) :
    Calls Try.prog 32 #[v, .int .i64 k] w fun e w' => e = .returned (.int .i64 (k + l.length)) ∧ OwnIH 3 B H w' v (marks k l.length) ∧ Chg B H w w' :=
  (markIntS B v l k w h.1 hn h0 (by omega)).mono fun e w' ⟨h2, h3, h4, h5⟩ => ⟨h2, ⟨h3, h.2⟩, ⟨h4.os, h4.tape, h4.output, h5, fun b hb hbb => h4.block b hb fun e => by
    have := h.2 b e.symm; have := (h.1.lt b e.symm).1; omega⟩⟩
theorem heldIntSH (v : Value) (l : List Int) (k : Int) (w : World) (h : Ints w v (marks k l.length)) (hn : l.length ≤ 4000000) (h0 : 0 ≤ k) (h1 : k ≤ 4000000) :
    Calls Try.prog 33 #[v, .int .i64 k] w fun e w' => e = .returned (.int .i64 (k + l.length)) ∧ Drawn w w' := heldIntS v l.length k w h hn h0 (by omega)
end Go.Proofs.Ytacgnbbogjdfkaa
