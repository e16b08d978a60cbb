/- FnNumbers returns true for every input and leaves its argument as it was. No conditions. -/
import Derived.Test.YtepfemocjklabaaDoorDrawN
import Derived.Test.YtepfemocjklabaaDoorFrameB
import Derived.Test.YtepfemocjklabaaDoorFrameD
namespace Go.Proofs.YtepfemocjklabaaDoor
open Go.RowKit Go.Deep Go.ChangeShapes Go.WideShapes Go.ChangeAt

set_option maxRecDepth 10000 in
set_option maxHeartbeats 400000 in
theorem bigC (v : Value) (l : List UInt8) (w : World) (hv : BytesV w v l) :
    Calls Tryd.prog 13 #[v] w fun e w' => e = .returned (.bool (decide (1048576 < (l.length : Int)))) ∧ w = w' := by
  obtain ⟨a, cap, rfl, hn, HC⟩ := Row.open hv
  rw [bv_length] at hn ⊢
  obtain ⟨n, hl⟩ : ∃ n, l.length = n := ⟨_, rfl⟩
  rw [hl] at hn ⊢
  clear HC hv
  go_enter Tryd.func13, Tryd.ntmps13
  go_wp2
  go_ret
  exact ⟨rfl, rfl⟩
set_option maxRecDepth 10000 in
set_option maxHeartbeats 800000 in
theorem lawNumbers (w : World) (_ : w.ShapedOpen Tryd.prog) (hl : laidMetH Tryd.prog Rows.fnNumbersRow.laid w) (v : Value) (l : List UInt8) (hv : BytesV w v l) :
    Calls Tryd.prog 6 #[v] w fun e w' => e = .returned (.bool true) ∧ Below w.heap.size w w' := by
  rw [MakeChecks.laidMetH_plain _ _ _ (by kernel_rfl)] at hl
  have ht : Tb w := tb_of_laid hl
  have hev : Ev w := ev_of_laid hl
  clear hl
  by_cases hbig : 1048576 < (l.length : Int)
  · have hd : decide (1048576 < (l.length : Int)) = true := decide_eq_true hbig
    go_enter Tryd.func6, Tryd.ntmps6
    go_wp2_with fail
    refine (bigC v l _ hv).mono ?_
    rintro e w1 ⟨rfl, rfl⟩
    rw [hd]
    go_wp2
    go_ret
    exact ⟨rfl, Below.refl _ _⟩
  have hd : decide (1048576 < (l.length : Int)) = false := decide_eq_false hbig
  clear hbig
  go_enter Tryd.func6, Tryd.ntmps6
  go_wp2_with fail
  refine (bigC v l _ hv).mono ?_
  rintro e w1 ⟨rfl, rfl⟩
  rw [hd]
  clear hd
  go_wp2_with fail
  refine (dFormat v l _ hv).mono ?_
  rintro e w2 ⟨n, rfl, ⟨hn0, hn1⟩, b2⟩
  have hsz := fmtI_small hn0 hn1
  have hp1 := size_in_pos (n := n)
  have hp2 := size_in_neg (n := n)
  have hp3 := size_out_pos (n := n)
  have hp4 := size_out_neg (n := n)
  obtain ⟨S, hS⟩ : ∃ S, fmtI n = S := ⟨_, rfl⟩
  have hF1 := Lib.hid (iFormatInt n w2 hn0 hn1 (ht.keep b2))
  have hF2 := Lib.hid (fun w' => sFormatInt n w' hn0 hn1)
  rw [hS] at hF1 hF2 hsz hp1 hp2 hp3 hp4
  have HS := Lib.hid hS; clear hS
  go_wp2_with fail
  refine hF1.out.mono ?_
  rintro e w3 ⟨rfl, hb3⟩
  have b3 := b2.trans (hb3.mono b2.size)
  go_wp2_with fail
  refine (iParseInt S _ (by omega) (ht.keep b3) (hev.keep b3)).mono ?_
  rintro e w4 ⟨x, ok, rfl, HR, hb4⟩
  have b4 := b3.trans (hb4.mono b3.size)
  have q1 : (S.toList != S.toList) = false := by simp
  have q2 : (S.toList == S.toList) = true := beq_self_eq_true _
  have q3 : (n == n) = true := beq_self_eq_true _
  by_cases hin : -999999999999 ≤ n ∧ n ≤ 999999999999
  · obtain ⟨hi1, hi2⟩ := hin
    obtain ⟨rfl, rfl⟩ := Rd.eq (by omega) (by omega) HR.out (.inl ⟨rfl, hi1, hi2, HS.out⟩)
    by_cases hneg : x < 0
    · have hz := hp2 hneg hi1
      clear hp1 hp2 hp3 hp4
      by_cases h12 : S.size ≤ 12
      · skip
        have d12 : decide ((S.size : Int) ≤ 12) = true := decide_eq_true (by omega)
        have d13 : decide ((S.size : Int) ≤ 13) = true := decide_eq_true (by omega)
        go_wp2_with fail
        refine (hF2.out _).mono ?_
        rintro e w5 ⟨rfl, hb5⟩
        have b5 := b4.trans (hb5.mono b4.size)
        go_wp2_with fail
        refine (dNumber v l _ (Row.keep hv b5)).mono ?_
        rintro e w6 ⟨t, rfl, htz, hb6⟩
        have b6 := b5.trans (hb6.mono b5.size)
        go_wp2_with fail
        refine (iParseNumber t _ (by omega) (ht.keep b6) (hev.keep b6)).mono ?_
        rintro e w7 ⟨y, fine, rfl, HR1, hb7⟩
        have b7 := b6.trans (hb7.mono b6.size)
        go_wp2_with fail
        refine (sParseNumber t _ (by omega)).mono ?_
        rintro e w8 ⟨y2, want, rfl, HR2, hb8⟩
        have b8 := b7.trans (hb8.mono b7.size)
        obtain ⟨rfl, rfl⟩ := Rd.eq (by omega) (by omega) HR1.out HR2.out
        cases fine with
        | false =>
          go_wp2
          go_ret
          exact ⟨rfl, b8⟩
        | true =>
          have hY : 0 ≤ y ∧ y ≤ 999999 ∧ fmtI y = t := by
            have h := HR1.out
            unfold Rd at h
            rcases h with ⟨_, h1, h2, h3⟩ | ⟨h1, _, _⟩
            · exact ⟨h1, h2, h3⟩
            · cases h1
          obtain ⟨hy0, hy1, hyt⟩ := hY
          have hF3 := Lib.hid (iFormatInt y w8 (by omega) (by omega) (ht.keep b8))
          rw [hyt] at hF3
          clear hyt
          have q9 : (t.toList == t.toList) = true := beq_self_eq_true _
          go_wp2_with fail
          refine hF3.out.mono ?_
          rintro e w9 ⟨rfl, hb9⟩
          have b9 := b8.trans (hb9.mono b8.size)
          go_wp2
          go_ret
          exact ⟨rfl, b9⟩
      · skip
        have d12 : decide ((S.size : Int) ≤ 12) = false := decide_eq_false (by omega)
        have d13 : decide ((S.size : Int) ≤ 13) = true := decide_eq_true (by omega)
        go_wp2_with fail
        refine (hF2.out _).mono ?_
        rintro e w5 ⟨rfl, hb5⟩
        have b5 := b4.trans (hb5.mono b4.size)
        go_wp2_with fail
        refine (dNumber v l _ (Row.keep hv b5)).mono ?_
        rintro e w6 ⟨t, rfl, htz, hb6⟩
        have b6 := b5.trans (hb6.mono b5.size)
        go_wp2_with fail
        refine (iParseNumber t _ (by omega) (ht.keep b6) (hev.keep b6)).mono ?_
        rintro e w7 ⟨y, fine, rfl, HR1, hb7⟩
        have b7 := b6.trans (hb7.mono b6.size)
        go_wp2_with fail
        refine (sParseNumber t _ (by omega)).mono ?_
        rintro e w8 ⟨y2, want, rfl, HR2, hb8⟩
        have b8 := b7.trans (hb8.mono b7.size)
        obtain ⟨rfl, rfl⟩ := Rd.eq (by omega) (by omega) HR1.out HR2.out
        cases fine with
        | false =>
          go_wp2
          go_ret
          exact ⟨rfl, b8⟩
        | true =>
          have hY : 0 ≤ y ∧ y ≤ 999999 ∧ fmtI y = t := by
            have h := HR1.out
            unfold Rd at h
            rcases h with ⟨_, h1, h2, h3⟩ | ⟨h1, _, _⟩
            · exact ⟨h1, h2, h3⟩
            · cases h1
          obtain ⟨hy0, hy1, hyt⟩ := hY
          have hF3 := Lib.hid (iFormatInt y w8 (by omega) (by omega) (ht.keep b8))
          rw [hyt] at hF3
          clear hyt
          have q9 : (t.toList == t.toList) = true := beq_self_eq_true _
          go_wp2_with fail
          refine hF3.out.mono ?_
          rintro e w9 ⟨rfl, hb9⟩
          have b9 := b8.trans (hb9.mono b8.size)
          go_wp2
          go_ret
          exact ⟨rfl, b9⟩
    · have hz := hp1 (by omega) hi2
      clear hp1 hp2 hp3 hp4
      have d12 : decide ((S.size : Int) ≤ 12) = true := decide_eq_true (by omega)
      have d13 : decide ((S.size : Int) ≤ 13) = true := decide_eq_true (by omega)
      go_wp2_with fail
      refine (hF2.out _).mono ?_
      rintro e w5 ⟨rfl, hb5⟩
      have b5 := b4.trans (hb5.mono b4.size)
      go_wp2_with fail
      refine (dNumber v l _ (Row.keep hv b5)).mono ?_
      rintro e w6 ⟨t, rfl, htz, hb6⟩
      have b6 := b5.trans (hb6.mono b5.size)
      go_wp2_with fail
      refine (iParseNumber t _ (by omega) (ht.keep b6) (hev.keep b6)).mono ?_
      rintro e w7 ⟨y, fine, rfl, HR1, hb7⟩
      have b7 := b6.trans (hb7.mono b6.size)
      go_wp2_with fail
      refine (sParseNumber t _ (by omega)).mono ?_
      rintro e w8 ⟨y2, want, rfl, HR2, hb8⟩
      have b8 := b7.trans (hb8.mono b7.size)
      obtain ⟨rfl, rfl⟩ := Rd.eq (by omega) (by omega) HR1.out HR2.out
      cases fine with
      | false =>
        go_wp2
        go_ret
        exact ⟨rfl, b8⟩
      | true =>
        have hY : 0 ≤ y ∧ y ≤ 999999 ∧ fmtI y = t := by
          have h := HR1.out
          unfold Rd at h
          rcases h with ⟨_, h1, h2, h3⟩ | ⟨h1, _, _⟩
          · exact ⟨h1, h2, h3⟩
          · cases h1
        obtain ⟨hy0, hy1, hyt⟩ := hY
        have hF3 := Lib.hid (iFormatInt y w8 (by omega) (by omega) (ht.keep b8))
        rw [hyt] at hF3
        clear hyt
        have q9 : (t.toList == t.toList) = true := beq_self_eq_true _
        go_wp2_with fail
        refine hF3.out.mono ?_
        rintro e w9 ⟨rfl, hb9⟩
        have b9 := b8.trans (hb9.mono b8.size)
        go_wp2
        go_ret
        exact ⟨rfl, b9⟩
  · obtain ⟨rfl, rfl⟩ := Rd.eq (by omega) (by omega) HR.out (.inr ⟨rfl, rfl, fun m h1 h2 h3 => by
      have e1 := fmtI_atoi (by omega) (by omega) h3
      have e2 := fmtI_atoi (by omega) (by omega) HS.out
      rw [e1] at e2
      injection e2 with e2
      omega⟩)
    by_cases hneg : n < 0
    · have hz := hp4 (by omega)
      clear hp1 hp2 hp3 hp4
      have d12 : decide ((S.size : Int) ≤ 12) = false := decide_eq_false (by omega)
      have d13 : decide ((S.size : Int) ≤ 13) = false := decide_eq_false (by omega)
      go_wp2_with fail
      refine (hF2.out _).mono ?_
      rintro e w5 ⟨rfl, hb5⟩
      have b5 := b4.trans (hb5.mono b4.size)
      go_wp2_with fail
      refine (dNumber v l _ (Row.keep hv b5)).mono ?_
      rintro e w6 ⟨t, rfl, htz, hb6⟩
      have b6 := b5.trans (hb6.mono b5.size)
      go_wp2_with fail
      refine (iParseNumber t _ (by omega) (ht.keep b6) (hev.keep b6)).mono ?_
      rintro e w7 ⟨y, fine, rfl, HR1, hb7⟩
      have b7 := b6.trans (hb7.mono b6.size)
      go_wp2_with fail
      refine (sParseNumber t _ (by omega)).mono ?_
      rintro e w8 ⟨y2, want, rfl, HR2, hb8⟩
      have b8 := b7.trans (hb8.mono b7.size)
      obtain ⟨rfl, rfl⟩ := Rd.eq (by omega) (by omega) HR1.out HR2.out
      cases fine with
      | false =>
        go_wp2
        go_ret
        exact ⟨rfl, b8⟩
      | true =>
        have hY : 0 ≤ y ∧ y ≤ 999999 ∧ fmtI y = t := by
          have h := HR1.out
          unfold Rd at h
          rcases h with ⟨_, h1, h2, h3⟩ | ⟨h1, _, _⟩
          · exact ⟨h1, h2, h3⟩
          · cases h1
        obtain ⟨hy0, hy1, hyt⟩ := hY
        have hF3 := Lib.hid (iFormatInt y w8 (by omega) (by omega) (ht.keep b8))
        rw [hyt] at hF3
        clear hyt
        have q9 : (t.toList == t.toList) = true := beq_self_eq_true _
        go_wp2_with fail
        refine hF3.out.mono ?_
        rintro e w9 ⟨rfl, hb9⟩
        have b9 := b8.trans (hb9.mono b8.size)
        go_wp2
        go_ret
        exact ⟨rfl, b9⟩
    · have hz := hp3 (by omega)
      clear hp1 hp2 hp3 hp4
      have d12 : decide ((S.size : Int) ≤ 12) = false := decide_eq_false (by omega)
      go_wp2_with fail
      refine (hF2.out _).mono ?_
      rintro e w5 ⟨rfl, hb5⟩
      have b5 := b4.trans (hb5.mono b4.size)
      go_wp2_with fail
      refine (dNumber v l _ (Row.keep hv b5)).mono ?_
      rintro e w6 ⟨t, rfl, htz, hb6⟩
      have b6 := b5.trans (hb6.mono b5.size)
      go_wp2_with fail
      refine (iParseNumber t _ (by omega) (ht.keep b6) (hev.keep b6)).mono ?_
      rintro e w7 ⟨y, fine, rfl, HR1, hb7⟩
      have b7 := b6.trans (hb7.mono b6.size)
      go_wp2_with fail
      refine (sParseNumber t _ (by omega)).mono ?_
      rintro e w8 ⟨y2, want, rfl, HR2, hb8⟩
      have b8 := b7.trans (hb8.mono b7.size)
      obtain ⟨rfl, rfl⟩ := Rd.eq (by omega) (by omega) HR1.out HR2.out
      cases fine with
      | false =>
        go_wp2
        go_ret
        exact ⟨rfl, b8⟩
      | true =>
        have hY : 0 ≤ y ∧ y ≤ 999999 ∧ fmtI y = t := by
          have h := HR1.out
          unfold Rd at h
          rcases h with ⟨_, h1, h2, h3⟩ | ⟨h1, _, _⟩
          · exact ⟨h1, h2, h3⟩
          · cases h1
        obtain ⟨hy0, hy1, hyt⟩ := hY
        have hF3 := Lib.hid (iFormatInt y w8 (by omega) (by omega) (ht.keep b8))
        rw [hyt] at hF3
        clear hyt
        have q9 : (t.toList == t.toList) = true := beq_self_eq_true _
        go_wp2_with fail
        refine hF3.out.mono ?_
        rintro e w9 ⟨rfl, hb9⟩
        have b9 := b8.trans (hb9.mono b8.size)
        go_wp2
        go_ret
        exact ⟨rfl, b9⟩
set_option maxRecDepth 100000 in
theorem fnNumbers_lifted (os : Os) (started : os.Started) (H : Type) (enc : TypeId × Value → H) :
    ReturnsInHanded {} Tryd.checked os 6 .any (fun w args => (Rows.fnNumbersSpec.pre enc Tryd.prog Tryd.f6 [] false w args ∧ laidMetH Tryd.prog Rows.fnNumbersRow.laid w) ∧ sizedMet enc Tryd.prog Tryd.f6 (OpenSpec.ofChange Rows.fnNumbersSpec) false w args) (Rows.fnNumbersSpec.post enc Tryd.prog Tryd.f6 false true false false) := by
  refine lifted_law_door (lst := Rows.fnNumbersRow.laid) started (by kernel_rfl) Tryd.func6
    (ChangeSpec.witness_shaped (enc := enc) (C := Tryd.checked) (os := os) (X := fun w _ => laidMetH Tryd.prog Rows.fnNumbersRow.laid w) false (World.laidAll Tryd.prog os Rows.fnNumbersRow.laid) #[.slice none 0 0] 8 (World.laidAll_os _ _ _)
      (World.shaped_of_ZipB (by kernel_rfl) (by kernel_rfl)) (by kernel_rfl) (by kernel_rfl) (by kernel_rfl)
      (by rw [MakeChecks.laidMetH_plain _ _ _ (by kernel_rfl)]; exact laidMet_laidAll _ (by kernel_rfl) (by kernel_rfl)))
    rfl (by kernel_rfl) (by kernel_rfl) ?_ ?_
  · intro ds hl
    match ds, hl with
    | [d0], _ => rfl
  · intro W base args ds p hshp hlaid hval hA
    rw [Tryd.params6] at hval hA
    obtain ⟨v0, vs0, d0, ds0, p0, q0, hargs, rfl, rfl, h0, r0⟩ := trodAll_cons hA
    obtain ⟨rfl, rfl, rfl⟩ := trodAll_nil r0
    obtain rfl : args = #[v0] := by cases args; simp_all
    obtain ⟨a0, n0, c0, rfl⟩ := okWide_slice Tryd.underlying27 (hval 0 27 v0 rfl rfl)
    obtain ⟨m0, hm0⟩ : ∃ l, BytesV W (.slice a0 n0 c0) l := by obtain ⟨fu, hf⟩ := h0; exact bytes_of_trod Tryd.underlying27 Tryd.underlying5 (by kernel_rfl) rfl hf
    exact lawNumbers W hshp hlaid _ m0 hm0

set_option maxRecDepth 100000 in
theorem fnNumbers_holds : Rows.FnNumbersSaid :=
  OpenClaim.holds_of_wide 6 Tryd.f6 rfl rfl rfl rfl rfl rfl rfl ⟨rfl, rfl, rfl, rfl, rfl⟩ rfl rfl rfl rfl rfl (by kernel_rfl) Tryd.func6 (by kernel_rfl)
    (of_decide_eq_true (by kernel_rfl)) (by unfold Func.isWrapper; first | (rw [if_pos (by decide +kernel)]; kernel_rfl) | (rw [if_neg (by decide +kernel)]; exact ⟨rfl, rfl⟩))
    (fun os started H enc _ => fnNumbers_lifted os started H enc)
set_option maxRecDepth 100000 in
theorem fnNumbersCard_holds : Rows.FnNumbersCardSaid :=
  Claim7.holds_tied_plain_at .later [] [.data, .data, .data, .sentinel, .sentinel] true (true, "f6bf3e8e5798cca46134f15ac73bdecab0daa01849c7f8c14bf2d6c83528927b") true fnNumbers_holds (fun _ h => by cases h) (by kernel_rfl) (fun _ h => by cases h) fnNumbers_row_tie rfl ⟨rfl, rfl⟩ (by kernel_rfl) rfl
    (fun f fn hf hfn => by
      obtain rfl : f = 6 := Option.some.inj ((show Tryd.prog.funcNamed "loop.example/g03103/laws.FnNumbers" = some 6 by kernel_rfl).symm.trans hf) |>.symm
      obtain rfl : fn = Tryd.f6 := (Option.some.inj (Tryd.func6.symm.trans hfn)).symm
      exact ⟨by kernel_rfl, fun j t ht => by
        have hall : (Tryd.f6.params.toList.all fun u => !Tryd.prog.wantsStandIn u) = true := by kernel_rfl
        have hm : t ∈ Tryd.f6.params.toList := Array.mem_toList_iff.2 (Array.mem_of_getElem? ht)
        exact (show Tryd.prog.wantsStandIn t = false by simpa using List.all_eq_true.1 hall t hm)⟩)
    (by kernel_rfl)

end Go.Proofs.YtepfemocjklabaaDoor
