/- Rows of numbers read from texts, the program's. No statement is proved here. (under way) -/
import Derived.Test.YtloicjojhfpihaaDoorSplit
import Derived.Test.YtloicjojhfpihaaDoorOutS
import Derived.Test.YtloicjojhfpihaaDoorReadS
import Derived.Test.YtloicjojhfpihaaDoorApp
import Derived.Test.YtloicjojhfpihaaDoorApp2
import Derived.Test.YtloicjojhfpihaaDoorHelp
namespace Go.Proofs.YtloicjojhfpihaaDoor
open Go.RowKit Go.Deep
def txts (r : List Int) : List ByteArray := r.map fmtI
theorem txts_len (r : List Int) : (txts r).length = r.length := by simp [txts]
theorem txts_snoc (r : List Int) (x : Int) : txts (r ++ [x]) = txts r ++ [fmtI x] := by simp [txts]
def inM (r : List Int) : Prop := ∀ x ∈ r, 0 ≤ x ∧ x ≤ 1000000
/-- What reading a row of numbers gives. -/
def RowR (s : ByteArray) (r : List Int) (b : Bool) : Prop := (b = true ∧ splL s 44 = txts r ∧ inM r) ∨ (b = false ∧ ∀ r', inM r' → splL s 44 = txts r' → False)
theorem row_bad {s t : ByteArray} {j : Nat} {n : Int} (ht : (splL s 44)[j]? = some t) (h : Rd 0 1000000 t n false) : ∀ r', inM r' → splL s 44 = txts r' → False := fun r' hr h2 => by
  rw [h2] at ht
  have hx : (txts r')[j]? = r'[j]?.map fmtI := by simp [txts]
  rw [hx] at ht
  obtain ⟨x, hx1, hx2⟩ := Option.map_eq_some_iff.1 ht
  obtain ⟨h0, h1⟩ := hr x (List.mem_of_getElem? hx1)
  rcases h with ⟨h3, _⟩ | ⟨_, _, h3⟩
  · cases h3
  · exact h3 x h0 h1 hx2
theorem rd_true {lo hi n : Int} {t : ByteArray} (h : Rd lo hi t n true) : lo ≤ n ∧ n ≤ hi ∧ fmtI n = t := by
  rcases h with ⟨_, h1, h2, h3⟩ | ⟨h, _, _⟩
  · exact ⟨h1, h2, h3⟩
  · cases h
theorem part_size {s p : ByteArray} {b : UInt8} (h : p ∈ splL s b) : p.size ≤ s.size := by
  have key : ∀ r acc, ∀ p ∈ cutA b acc r, p.length ≤ acc.length + r.length := by
    intro r
    induction r with
    | nil => intro acc p hp; have e : p = acc := by simpa [cutA] using hp
             subst e; simp
    | cons x r ih =>
      intro acc p hp
      unfold cutA at hp
      split at hp
      · rcases List.mem_cons.1 hp with hp | hp
        · subst hp; simp
        · have := ih [] p hp; simp at this ⊢; omega
      · have := ih _ p hp; simp at this ⊢; omega
  obtain ⟨q, hq, rfl⟩ := List.mem_map.1 h
  have := key (bts s) [] q hq
  rw [str_size, ← bts_length]
  simpa using this
theorem iStrSplit (s : ByteArray) (b : UInt8) (w : World) (hm : Ml w) (hs : s.size ≤ 1048576) :
    Calls Tryd.prog 18 #[.string s, .string ⟨#[b]⟩] w fun e w' => ∃ v', e = .returned v' ∧ OwnS 9 w.heap.size w' v' (splL s b) ∧ Below w.heap.size w w' := by
  obtain ⟨m, hm1⟩ := hm
  refine (Tryd.strings_Split s ⟨#[b]⟩ m w (by omega) hm1 (Nat.le_refl 1)).mono ?_
  rintro e w' ⟨rfl, rfl⟩
  refine ⟨_, rfl, ?_, below_alloc _ _⟩
  have e1 : Lib.splitB ⟨#[b]⟩ 0 (Lib.countB s ⟨#[b]⟩) s = splL s b := splitB_splL s b
  have e2 : Lib.countB s ⟨#[b]⟩ + 1 = (splL s b).length := (splL_len s b).symm
  rw [e1, e2]
  have h := World.ownsRow_lit (base := w.heap.size) (e := 9) (size := 1) w ((splL s b).map Value.string).toArray (splL s b).length (Nat.le_refl _) (by have := splL_small s b hs; unfold maxLen; omega) (by simp)
  have e3 : (strs (splL s b)).length = (splL s b).length := strs_length _
  unfold OwnS Own
  rw [e3]
  simpa [strs] using h
def RowE (s : ByteArray) (w : World) (e : Ending) (w' : World) : Prop := ∃ v' r b, e = .returned (.tuple #[v', .bool b]) ∧ (b = true → Own 3 w.heap.size w' v' (ints r)) ∧ Hid (RowR s r b) ∧ Below w.heap.size w w'
theorem rowE {s : ByteArray} {w w' : World} {e : Ending} {v : Value} {r : List Int} {b : Bool} (h : e = .returned (.tuple #[v, .bool b])) (h1 : b = true → Own 3 w.heap.size w' v (ints r)) (h2 : Hid (RowR s r b)) (h3 : Below w.heap.size w w') : RowE s w e w' := ⟨v, r, b, h, h1, h2, h3⟩
set_option maxRecDepth 10000 in
set_option maxHeartbeats 400000 in
theorem iparseRow (s : ByteArray) (w : World) (hs : s.size ≤ 1048576) (hm : Ml w) (ht : Tb w) (hev : Ev w) :
    Calls Tryd.prog 25 #[.string s] w (RowE s w) := by
  have hlen := splL_small s 44 hs
  have hE := Own.empty 3 w
  have hEb := below_alloc w (.cells #[] 3)
  have hSp := Lib.hid (iStrSplit s 44 (w.alloc (.cells #[] 3)) (hm.keep hEb) hs)
  have HP : Hid (∀ p ∈ splL s 44, p.size ≤ 1048576) := Lib.hid fun p hp => Nat.le_trans (part_size hp) hs
  have HB : Hid (∀ j t n, (splL s 44)[j]? = some t → Rd 0 1000000 t n false → RowR s [] false) := Lib.hid fun j t n h1 h2 => .inr ⟨rfl, row_bad h1 h2⟩
  have HG : Hid (∀ r, splL s 44 = txts r → inM r → RowR s r true) := Lib.hid fun r h1 h2 => .inl ⟨rfl, h1, h2⟩
  obtain ⟨L, hL⟩ : ∃ L, splL s 44 = L := ⟨_, rfl⟩
  rw [hL] at hSp HP HB HG hlen
  clear hL
  obtain ⟨n, hn⟩ : ∃ n, L.length = n := ⟨_, rfl⟩
  go_enter Tryd.func25, Tryd.ntmps25
  go_wp2_with fail
  refine hSp.out.mono ?_
  rintro e w1 ⟨vp, rfl, (hop : OwnS _ _ _ _ _), hb1⟩
  have b1 := hEb.trans (hb1.mono hEb.size)
  have hq0 := hE.keep hb1
  have hz0 : (w.alloc (.cells #[] 3)).heap.size = w.heap.size + 1 := by simp
  rw [hz0] at hop
  have hopH := OwnS.toH hop
  have hz1 := hb1.size
  rw [hz0] at hz1
  obtain ⟨ap, cp, rfl⟩ := Own.form hop (show (strs L).length = n by rw [strs_length, hn])
  rw [hn] at hlen
  have hO0 : Out (w.heap.size + 1) w1.heap.size (.slice (some ⟨w.heap.size, 0, none⟩) 0 0) := fun k hk => by
    have e : w.heap.size = k := by simpa [Value.ownBlock] using hk
    exact .inl (by omega)
  clear hE hEb hSp hop hb1 hz0
  go_wp2
  go_loopw [4, 6, 7, 8, 13] (fun q _ _ _ i wr => ∃ (j : Nat) (r : List Int), j ≤ n ∧ i = .int .i64 j ∧ Own 3 w.heap.size wr q (ints r) ∧ Hid (L.take j = txts r ∧ inM r) ∧ Below w.heap.size w wr ∧ w1.heap.size ≤ wr.heap.size ∧ OwnSH 9 (w.heap.size + 1) w1.heap.size wr (.slice ap n cp) L ∧ Out (w.heap.size + 1) w1.heap.size q) (fun _ _ _ _ i _ => n - (intOf i).toNat)
  case atStart => exact ⟨0, [], Nat.zero_le _, rfl, hq0, Lib.hid ⟨rfl, fun x hx => by cases hx⟩, b1, Nat.le_refl _, hopH, hO0⟩
  case round =>
    clear hq0 hopH hO0 b1
    obtain ⟨j, r, hj, rfl, hq, HT, bq, hw1, hop, hO⟩ := hrel
    have hsq := bq.size
    by_cases hlt : j < n
    · obtain ⟨a9, n9, c9, e9, HL9, _, HC9⟩ := hop.strs.open
      simp only [Value.slice.injEq] at e9
      obtain ⟨e91, e92, -⟩ := e9
      obtain ⟨bk, off, x, e93, hc1, HX⟩ := HC9.out j (by omega)
      obtain rfl : ap = some ⟨bk, off, none⟩ := e91.trans e93
      clear e91 e92 e93 HC9 HL9
      have hxs := HP.out x (List.mem_of_getElem? HX.out)
      have hP := Lib.hid (iparse x 0 1000000 wr hxs (by omega) (by omega) (ht.keep bq) (hev.keep bq))
      go_wp2_with fail
      refine hP.out.mono ?_
      rintro e w2 ⟨y, ok, rfl, HR, hb2⟩
      have b2 := bq.trans (hb2.mono hsq)
      cases ok with
      | false =>
        have HF := Lib.hid (HB.out j x y HX.out HR.out)
        go_wp2
        go_ret2
        exact rowE rfl (fun h => by cases h) HF b2
      | true =>
        obtain ⟨y0, y1, hy⟩ := rd_true HR.out
        have HN : Hid (L.take (j + 1) = txts (r ++ [y]) ∧ inM (r ++ [y])) := Lib.hid ⟨by rw [take_snoc HX.out, HT.out.1, txts_snoc, hy], fun z hz => by
          rcases List.mem_append.1 hz with hz | hz
          · exact HT.out.2 z hz
          · rw [List.mem_singleton.1 hz]; exact ⟨y0, y1⟩⟩
        have hrl : Hid (r.length = j) := Lib.hid (by have := congrArg List.length HT.out.1; rw [txts_len, List.length_take] at this; omega)
        have hq2 := hq.keep hb2
        have hs2 := b2.size
        clear hy
        go_wp2_with (at_builtin; refine app1b 42 3 8 (.int .i64 0) Tryd.underlying42 Tryd.infoInt rfl hq2 (.int .i64 y) rfl ?h1 ?h2 hs2 rfl _ _ rfl rfl rfl (by simp) ?_)
        case h1 => rw [ints_length, hrl.out]; unfold maxLen; omega
        case h2 => rw [ints_length, hrl.out]; omega
        have hop2 := hop.keep hb2
        intro q' w4 hq4 hg hsz hblk
        go_wp2
        go_roundw
        case rel => exact ⟨j + 1, r ++ [y], by omega, by go_num, by simpa [ints] using hq4, HN, b2.trans (hq2.below hg (Nat.le_refl _) hs2), by have := hb2.size; have := hg.size; omega, hop2.grownOut hg hO, hO.next hblk (by have := hb2.size; omega)⟩
        case measure => simp [intOf]; omega
    · have HF := Lib.hid (HG.out r (by have := HT.out.1; rwa [List.take_of_length_le (by omega)] at this) HT.out.2)
      go_wp2
      go_ret2
      exact rowE rfl (fun _ => hq) HF bq
end Go.Proofs.YtloicjojhfpihaaDoor
