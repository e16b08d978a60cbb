/- FnExactParseMatrix returns true for every input and leaves its arguments as they were. No conditions. -/
import Derived.Test.YtloicjojhfpihaaDoorParseS
import Derived.Test.YtloicjojhfpihaaDoorMark
import Derived.Test.YtloicjojhfpihaaDoorFrameD
namespace Go.Proofs.YtloicjojhfpihaaDoor
open Go.RowKit Go.Deep Go.ChangeShapes Go.WideShapes Go.ChangeAt
theorem ev_of_laid4 {W : World} {d1 d2 d3 d4 e1 e2 : DataW Unit} {n1 n2 n3 n4 s1 s2 : String} {rest : List (String × DataW Unit)} (h : laidMet Tryd.prog ((n1, d1) :: (n2, d2) :: (n3, d3) :: (n4, d4) :: ("strconv.ErrRange", .iface s1 e1) :: ("strconv.ErrSyntax", .iface s2 e2) :: rest) W) : Ev W := by
  obtain ⟨ps, ⟨g0, t0, cs0, f0, p0, q0, _, _, _, _, ⟨g1, t1, cs1, f1, p1, q1, _, _, _, _, ⟨g2, t2, cs2, f2, p2, q2, _, _, _, _, ⟨g3, t3, cs3, f3, p3, q3, _, _, _, _, ⟨g, t, cs, fuel, p, q, hg, ht, hv, hd, ⟨g', t', cs', fuel', p', q', hg', ht', hv', hd', _⟩, _⟩, _⟩, _⟩, _⟩, _⟩, _⟩ := h
  obtain rfl := Option.some.inj (gRng.symm.trans hg)
  obtain rfl := Option.some.inj (gSyn.symm.trans hg')
  obtain rfl := Option.some.inj ((show (Tryd.prog.globals[4]?).map (·.type) = some 59 by kernel_rfl).symm.trans ht)
  obtain rfl := Option.some.inj ((show (Tryd.prog.globals[3]?).map (·.type) = some 59 by kernel_rfl).symm.trans ht')
  obtain ⟨_, u, v, hcs, _⟩ := iface_of_trod Tryd.underlying59 hd
  obtain ⟨_, u', v', hcs', _⟩ := iface_of_trod Tryd.underlying59 hd'
  refine ⟨⟨u', v', ?_⟩, ⟨u, v, ?_⟩⟩
  · have := World.var?_cell hg' hv' 0
    rw [arr_one hcs'] at this
    simpa using this
  · have := World.var?_cell hg hv 0
    rw [arr_one hcs] at this
    simpa using this
theorem matR_small {s : ByteArray} {m : List (List Int)} {b : Bool} (h : MatR s m b) : m.length + total m ≤ 4000000 := by
  rcases h with ⟨_, _, h⟩ | ⟨_, rfl, _⟩
  · have h9 := isMat_len h
    rw [isMat_tab h]
    exact tabF_small _ _ _ (by omega) (by omega)
  · exact Nat.zero_le _
theorem belowQ {a b c : World} (h : Below a.heap.size a b) (k : Below b.heap.size b c) : Below a.heap.size a c := h.trans (k.mono h.size)

set_option maxRecDepth 10000 in
set_option maxHeartbeats 800000 in
theorem lawParseMatrix (w : World) (hsh : w.ShapedOpen Tryd.prog) (hl : laidMetH Tryd.prog Rows.fnExactParseMatrixRow.laid w) (s : ByteArray) (_ : s.size ≤ maxLen) :
    Calls Tryd.prog 4 #[.string s] w fun e w' => e = .returned (.bool true) ∧ Below w.heap.size w w' := by
  by_cases hbs : 1048576 < (s.size : Int)
  · go_enter Tryd.func4, Tryd.ntmps4
    go_wp2
    go_ret
    exact ⟨rfl, Below.refl _ _⟩
  have hs : s.size ≤ 1048576 := by omega
  rw [MakeChecks.laidMetH_plain _ _ _ (by kernel_rfl)] at hl
  have ht : Tb w := tb_of_laid hl
  have hev : Ev w := ev_of_laid4 hl
  have hm : Ml w := Tryd.laysM146.s1_3 w hsh
  clear hl hsh
  go_enter Tryd.func4, Tryd.ntmps4
  go_wp2_with fail
  refine (sParseMatrix s _ hs).mono ?_
  rintro e w1 ⟨v1, m, ok, rfl, ho1, HR1, b1⟩
  obtain ⟨a1, c1, rfl⟩ := ho1.form
  go_wp2_with fail
  refine (iParseMatrix s _ hs (hm.keep b1) (ht.keep b1) (hev.keep b1)).mono ?_
  rintro e w2 ⟨v2, m2, ok2, rfl, ho2, HR2, hb2⟩
  obtain ⟨rfl, rfl⟩ := MatR.eq HR1.out HR2.out
  have hsm := matR_small HR1.out
  obtain ⟨a2, c2, rfl⟩ := ho2.form
  have b2 := belowQ b1 hb2
  have M1 := ho1.mat.keep hb2
  have H1 := (OwnMat.toH ho1).keep hb2
  have H2 := OwnMat.toH ho2
  have q1 : (ok == ok) = true := beq_self_eq_true _
  have q2 : (ok != ok) = false := by simp
  go_wp2_with fail
  refine (eqIntSS _ _ m m _ ho2.mat M1).mono ?_
  rintro e w3 ⟨rfl, hd3⟩
  rw [same_refl]
  have H2 := H2.keep (hd3.below _)
  have H1 := H1.keep (hd3.below _)
  have b3 := b2.trans (hd3.below _)
  have z1 := b1.size
  have z2 := hb2.size
  have z3 := (hd3.below 0).size
  go_wp2_with fail
  refine (markIntSS _ _ _ m 1 _ H2 hsm (by omega) (by omega)).mono ?_
  rintro e w4 ⟨rfl, hM4, hch⟩
  have H1 := H1.chg hch (.inl (Nat.le_refl _))
  have b4 := b3.trans (hch.below z1 (by omega))
  go_wp2_with fail
  refine (heldIntSS _ m 1 _ hM4.mat hsm (by omega) (by omega)).mono ?_
  rintro e w5 ⟨rfl, hd5⟩
  have b5 := b4.trans (hd5.below _)
  have H1 := H1.keep (hd5.below _)
  have hM5 := hM4.keep (hd5.below _)
  go_wp2_with fail
  refine (iParseMatrix s _ hs (hm.keep b5) (ht.keep b5) (hev.keep b5)).mono ?_
  rintro e w6 ⟨v6, m6, ok6, rfl, ho6, HR6, hb6⟩
  obtain ⟨rfl, rfl⟩ := MatR.eq HR1.out HR6.out
  obtain ⟨a6, c6, rfl⟩ := ho6.form
  have b6 := belowQ b5 hb6
  have H1 := H1.keep hb6
  have hM6 := hM5.keep hb6
  go_wp2_with fail
  refine (eqIntSS _ _ m m _ ho6.mat H1.mat).mono ?_
  rintro e w7 ⟨rfl, hd7⟩
  rw [same_refl]
  have b7 := b6.trans (hd7.below _)
  have hM7 := hM6.keep (hd7.below _)
  go_wp2_with fail
  refine (heldIntSS _ m 1 _ hM7.mat hsm (by omega) (by omega)).mono ?_
  rintro e w8 ⟨rfl, hd8⟩
  have b8 := b7.trans (hd8.below _)
  go_wp2
  go_ret
  exact ⟨rfl, b8⟩
set_option maxRecDepth 100000 in
theorem fnExactParseMatrix_lifted (os : Os) (started : os.Started) (H : Type) (enc : TypeId × Value → H) :
    ReturnsInHanded {} Tryd.checked os 4 .any (fun w args => (Rows.fnExactParseMatrixSpec.pre enc Tryd.prog Tryd.f4 [] false w args ∧ laidMetH Tryd.prog Rows.fnExactParseMatrixRow.laid w) ∧ sizedMet enc Tryd.prog Tryd.f4 (OpenSpec.ofChange Rows.fnExactParseMatrixSpec) false w args) (Rows.fnExactParseMatrixSpec.post enc Tryd.prog Tryd.f4 false true false false) := by
  refine lifted_law_door (lst := Rows.fnExactParseMatrixRow.laid) started (by kernel_rfl) Tryd.func4
    (ChangeSpec.witness_shaped (enc := enc) (C := Tryd.checked) (os := os) (X := fun w _ => laidMetH Tryd.prog Rows.fnExactParseMatrixRow.laid w) false (World.laidAll Tryd.prog os Rows.fnExactParseMatrixRow.laid) #[.string ByteArray.empty] 8 (World.laidAll_os _ _ _)
      (World.shaped_of_ZipB (by kernel_rfl) (by kernel_rfl)) (by kernel_rfl) (by kernel_rfl) (by kernel_rfl)
      (by rw [MakeChecks.laidMetH_plain _ _ _ (by kernel_rfl)]; exact laidMet_laidAll _ (by kernel_rfl) (by kernel_rfl)))
    rfl (by kernel_rfl) (by kernel_rfl) ?_ ?_
  · intro ds hl
    match ds, hl with
    | [d0], _ => rfl
  · intro W base args ds p hshp hlaid hval hA
    rw [Tryd.params4] at hval hA
    obtain ⟨v0, vs0, d0, ds0, p0, q0, hargs, rfl, rfl, h0, r0⟩ := trodAll_cons hA
    obtain ⟨rfl, rfl, rfl⟩ := trodAll_nil r0
    obtain rfl : args = #[v0] := by cases args; simp_all
    obtain ⟨s0, rfl, rfl, rfl, ws0⟩ := Go.ChangeMaps.open_string Tryd.underlying9 (hval 0 9 v0 rfl rfl) h0
    exact lawParseMatrix W hshp hlaid s0 ws0

set_option maxRecDepth 100000 in
theorem fnExactParseMatrix_holds : Rows.FnExactParseMatrixSaid :=
  OpenClaim.holds_of_wide 4 Tryd.f4 rfl rfl rfl rfl rfl rfl rfl ⟨rfl, rfl, rfl, rfl, rfl⟩ rfl rfl rfl rfl rfl (by kernel_rfl) Tryd.func4 (by kernel_rfl)
    (of_decide_eq_true (by kernel_rfl)) (by unfold Func.isWrapper; first | (rw [if_pos (by decide +kernel)]; kernel_rfl) | (rw [if_neg (by decide +kernel)]; exact ⟨rfl, rfl⟩))
    (fun os started H enc _ => fnExactParseMatrix_lifted os started H enc)
set_option maxRecDepth 100000 in
theorem fnExactParseMatrixCard_holds : Rows.FnExactParseMatrixCardSaid :=
  Claim7.holds_tied_plain_at .later [] [.data, .data, .data, .data, .sentinel, .sentinel, .pinned] true (true, "e7b61529d3f8533211bc118549634c46ced31f777ae8a42d376890d243e7364b") true fnExactParseMatrix_holds (fun _ h => by cases h) (by kernel_rfl) (fun _ h => by cases h) fnExactParseMatrix_row_tie rfl ⟨rfl, rfl⟩ (by kernel_rfl) rfl
    (fun f fn hf hfn => by
      obtain rfl : f = 4 := Option.some.inj ((show Tryd.prog.funcNamed "loop.example/g03103/laws.FnExactParseMatrix" = some 4 by kernel_rfl).symm.trans hf) |>.symm
      obtain rfl : fn = Tryd.f4 := (Option.some.inj (Tryd.func4.symm.trans hfn)).symm
      exact ⟨by kernel_rfl, fun j t ht => by
        have hall : (Tryd.f4.params.toList.all fun u => !Tryd.prog.wantsStandIn u) = true := by kernel_rfl
        have hm : t ∈ Tryd.f4.params.toList := Array.mem_toList_iff.2 (Array.mem_of_getElem? ht)
        exact (show Tryd.prog.wantsStandIn t = false by simpa using List.all_eq_true.1 hall t hm)⟩)
    (by kernel_rfl)

end Go.Proofs.YtloicjojhfpihaaDoor
