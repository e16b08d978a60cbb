/- A slice of bytes as an argument of a law. No statement is proved here. -/
import Derived.Test.YtkohadoicebojaaGreatDoorFrame
import Derived.Test.YtkohadoicebojaaGreatDoorDraw
import Derived.ChangeSlices
namespace Go.Proofs.YtkohadoicebojaaGreatDoor
open Go.RowKit Go.Deep Go.ChangeShapes Go.WideShapes Go.ChangeAt
theorem byte_wf {x : Int} (wx : (Lit.int .u8 x).wf = true) : 0 ≤ x ∧ x ≤ 255 := by
  have hx : IntKind.u8.min ≤ x ∧ x ≤ IntKind.u8.max := by simpa [Lit.wf] using wx
  have h1 : IntKind.u8.min = 0 := rfl
  have h2 : IntKind.u8.max = 255 := rfl
  rwa [h1, h2] at hx
def u8s (zs : List Int) : List UInt8 := zs.map fun z => UInt8.ofNat z.toNat
theorem bv_u8s {zs : List Int} (h : ∀ z ∈ zs, 0 ≤ z ∧ z ≤ 255) : bv (u8s zs) = zs.map fun z => Value.int .u8 z := by
  unfold bv u8s
  rw [List.map_map]
  refine List.map_congr_left fun z hz => ?_
  obtain ⟨h1, h2⟩ := h z hz
  obtain ⟨n, rfl⟩ : ∃ n : Nat, z = n := ⟨z.toNat, by omega⟩
  show Value.int .u8 (((UInt8.ofNat n).toNat : Nat) : Int) = _
  have : (UInt8.ofNat n).toNat = n := by simp [UInt8.toNat_ofNat']; omega
  rw [this]
section
variable {H : Type} {enc : TypeId × Value → H} {P : Program} {w : World}
theorem bytes_of_trod {t e : TypeId} {v : Value} (ht : P.underlying t = some (.slice e)) (he : P.underlying e = some (.int .u8)) (hc : P.cellsOf e = 1) {cs : List Value} (hcs : cs = [v]) {fuel : Nat}
    {x : DataW H × List MemPlace} (h : DataW.trod enc P w 0 (fun _ => true) true fuel t cs = some x) : ∃ l, BytesV w v l := by
  subst hcs
  rcases open_ints ht he hc h with ⟨hcs, _⟩ | ⟨a, len, cap, zs, hcs, _, hl, hm, hz, _, hcell, hwf⟩
  · simp only [List.cons.injEq, and_true] at hcs
    subst hcs
    exact ⟨[], none, 0, rfl, by simp [bv], by simp [maxLen], fun i hi => by simp [bv] at hi⟩
  · simp only [List.cons.injEq, and_true] at hcs
    subst hcs
    simp only [if_true] at hz
    have hb := bv_u8s (zs := zs.take len) fun z hz => byte_wf (hwf z (List.mem_of_mem_take hz))
    refine ⟨u8s (zs.take len), ?_⟩
    unfold BytesV
    rw [hb]
    refine ⟨some a, cap, by simp; omega, by simp; omega, hm, fun i hi => ?_⟩
    have hi' : i < len ∧ i < zs.length := by simp at hi; omega
    obtain ⟨b, off, rfl, hc⟩ := addr_of (hcell 0 (by omega)) (hcell i hi'.2)
    exact ⟨b, off, rfl, by rw [hc]; simp [List.getD, List.getElem?_eq_getElem hi'.2]⟩
end
end Go.Proofs.YtkohadoicebojaaGreatDoor
