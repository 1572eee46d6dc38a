/- Missing, Broken and Known are as specified, with all errors: for every list of events and of shards the law returns true. No condition. -/
import Derived.Test.YtbbfdkjamjmbmaaKnown3
import Derived.Deep.QuietTactic
import Derived.BigQuiet
import Derived.Test.YtbbfdkjamjmbmaaFrame
import Derived.Test.YtbbfdkjamjmbmaaReadE
namespace Go.Proofs.Ytbbfdkjamjmbmaa.lawKnown
open Go.ChangeShapes Go.WideShapes Go.ChangeAt Go.RowKit

set_option maxRecDepth 100000 in
set_option maxHeartbeats 8000000 in
theorem equal_gaps (l : List Gp) (a a' : Option Addr) (c c' : Nat) (w : World) (s1 : Sl w (.slice a l.length c) l.length (l.flatMap gapL)) (s2 : Sl w (.slice a' l.length c') l.length (l.flatMap gapL)) :
    Calls Try.prog 14 #[.slice a l.length c, .slice a' l.length c'] w fun e w' => e = .returned (.bool true) ∧ Below w.heap.size w w' := by
  have hl : l.length ≤ 9223372036854775807 := by obtain ⟨_, _, hv, h1, h2, _⟩ := s1; cases hv; unfold maxLen at h2; omega
  have hne : ((l.length : Int) != (l.length : Int)) = false := by simp
  go_enter Try.func14, Try.ntmps14
  go_wp2
  go_loopw [13] (fun i wr => ∃ k : Nat, k ≤ l.length ∧ i = .int .i64 k ∧ Below w.heap.size w wr) (fun i _ => l.length - (intOf i).toNat)
  case atStart => exact ⟨0, by omega, rfl, Below.refl _ _⟩
  case round =>
    obtain ⟨k, hk, rfl, hb⟩ := hrel
    by_cases hlt : k < l.length
    · have hgk := List.getElem?_eq_getElem hlt
      generalize l[k] = s at hgk
      obtain ⟨b, o, rfl, hcs⟩ := (s1.ext hb).elem gapL_len (by omega : 0 < 3) hgk
      obtain ⟨b', o', rfl, hcs'⟩ := (s2.ext hb).elem gapL_len (by omega : 0 < 3) hgk
      have e0 := hcs 0 _ rfl
      have f0 := hcs' 0 _ rfl
      have e1 := hcs 1 _ rfl
      have f1 := hcs' 1 _ rfl
      have e2 := hcs 2 _ rfl
      have f2 := hcs' 2 _ rfl
      rw [Nat.add_zero] at e0 f0
      clear hcs hcs' hgk
      have hi0 : (0 : Int) ≤ (k : Int) := Int.natCast_nonneg _
      have hi1 : (k : Int) < (l.length : Int) := by omega
      go_wp2_with fail
      go_quiet (fail)
      go_wp2
      exact ⟨⟨k + 1, by omega, by go_num, below_drewN hb _⟩, by simp [intOf]; omega⟩
    · go_wp2
      go_ret
      exact ⟨rfl, hb⟩

set_option maxRecDepth 100000 in
set_option maxHeartbeats 8000000 in
theorem equal_events (l : List Ev) (a a' : Option Addr) (c c' : Nat) (w : World) (s1 : Sl w (.slice a l.length c) l.length (l.flatMap evL)) (s2 : Sl w (.slice a' l.length c') l.length (l.flatMap evL)) :
    Calls Try.prog 17 #[.slice a l.length c, .slice a' l.length c'] w fun e w' => e = .returned (.bool true) ∧ Below w.heap.size w w' := by
  have hl : l.length ≤ 9223372036854775807 := by obtain ⟨_, _, hv, h1, h2, _⟩ := s1; cases hv; unfold maxLen at h2; omega
  have hne : ((l.length : Int) != (l.length : Int)) = false := by simp
  go_enter Try.func17, Try.ntmps17
  go_wp2
  go_loopw [13] (fun i wr => ∃ k : Nat, k ≤ l.length ∧ i = .int .i64 k ∧ Below w.heap.size w wr) (fun i _ => l.length - (intOf i).toNat)
  case atStart => exact ⟨0, by omega, rfl, Below.refl _ _⟩
  case round =>
    obtain ⟨k, hk, rfl, hb⟩ := hrel
    by_cases hlt : k < l.length
    · have hgk := List.getElem?_eq_getElem hlt
      generalize l[k] = s at hgk
      obtain ⟨b, o, rfl, hcs⟩ := (s1.ext hb).elem evL_len (by omega : 0 < 8) hgk
      obtain ⟨b', o', rfl, hcs'⟩ := (s2.ext hb).elem evL_len (by omega : 0 < 8) hgk
      have e0 := hcs 0 _ rfl
      have f0 := hcs' 0 _ rfl
      have e1 := hcs 1 _ rfl
      have f1 := hcs' 1 _ rfl
      have e2 := hcs 2 _ rfl
      have f2 := hcs' 2 _ rfl
      have e3 := hcs 3 _ rfl
      have f3 := hcs' 3 _ rfl
      have e4 := hcs 4 _ rfl
      have f4 := hcs' 4 _ rfl
      have e5 := hcs 5 _ rfl
      have f5 := hcs' 5 _ rfl
      have e6 := hcs 6 _ rfl
      have f6 := hcs' 6 _ rfl
      have e7 := hcs 7 _ rfl
      have f7 := hcs' 7 _ rfl
      rw [Nat.add_zero] at e0 f0
      clear hcs hcs' hgk
      have hi0 : (0 : Int) ≤ (k : Int) := Int.natCast_nonneg _
      have hi1 : (k : Int) < (l.length : Int) := by omega
      go_wp2_with fail
      go_quiet (fail)
      go_wp2
      exact ⟨⟨k + 1, by omega, by go_num, below_drewN hb _⟩, by simp [intOf]; omega⟩
    · go_wp2
      go_ret
      exact ⟨rfl, hb⟩

set_option maxRecDepth 100000 in
set_option maxHeartbeats 8000000 in
theorem walk (l : List Ev) (hok : ∀ e ∈ l, e.ok) (L : List ByteArray) (hsz : ∀ s ∈ L, s.size ≤ maxLen) (a a2 : Option Addr) (c c2 : Nat) (w : World)
    (hs : Sl w (.slice a l.length c) l.length (l.flatMap evL)) (hs2 : Sl w (.slice a2 L.length c2) L.length (L.map Value.string)) :
    Calls Try.prog 4 #[.slice a l.length c, .slice a2 L.length c2] w fun e w' => e = .returned (.bool true) ∧ Below w.heap.size w w' := by
  have heq : (checkL l != checkL l) = false := by simp
  go_enter Try.func4, Try.ntmps4
  go_wp2_with fail
  refine (event_Missing l hok a c _ hs).mono ?_
  rintro e w1 ⟨a3, c3, rfl, s3, hb1⟩
  go_wp2_with fail
  refine (ref7_Missing l hok a c _ (hs.ext hb1)).mono ?_
  rintro e w2 ⟨a4, c4, rfl, s4, hb2⟩
  have hbw2 := ext_trans hb1 hb2
  go_wp2_with fail
  refine (equal_gaps (missL l) a3 a4 c3 c4 _ (s3.ext hb2) s4).mono ?_
  rintro e w3 ⟨rfl, hb3⟩
  have hbw3 := ext_trans hbw2 hb3
  clear s3 s4 hb1 hb2 hb3 hbw2
  go_wp2_with fail
  refine (event_Broken l hok a c _ (hs.ext hbw3)).mono ?_
  rintro e w4 ⟨a5, c5, rfl, s5, hb4⟩
  have hbw4 := ext_trans hbw3 hb4
  go_wp2_with fail
  refine (ref7_Broken l hok a c _ (hs.ext hbw4)).mono ?_
  rintro e w5 ⟨a6, c6, rfl, s6, hb5⟩
  have hbw5 := ext_trans hbw4 hb5
  go_wp2_with fail
  refine (equal_events (brokL l) a5 a6 c5 c6 _ (s5.ext hb5) s6).mono ?_
  rintro e w6 ⟨rfl, hb6⟩
  have hbw6 := ext_trans hbw5 hb6
  clear s5 s6 hb4 hb5 hb6 hbw5 hbw4 hbw3
  go_wp2_with fail
  refine (event_Known l hok L hsz a a2 c c2 _ (hs.ext hbw6) (hs2.ext hbw6)).mono ?_
  rintro e w7 ⟨rfl, hb7⟩
  have hbw7 := ext_trans hbw6 hb7
  go_wp2_with fail
  refine (ref7_Known l hok L hsz a a2 c c2 _ (hs.ext hbw7) (hs2.ext hbw7)).mono ?_
  rintro e w8 ⟨rfl, hb8⟩
  have hbw8 := ext_trans hbw7 hb8
  have h1 : (knownN l L == knownN l L) = true := by simp
  have h2 : (knownF l L == knownF l L) = true := by simp
  go_wp2
  go_ret
  exact ⟨rfl, hbw8⟩

theorem flat_of_reps : ∀ {l : List Ev} {cs : List Value}, Reps (fun s c => c = evL s ∧ s.ok) l cs → cs = l.flatMap evL ∧ ∀ e ∈ l, e.ok
  | [], _, h => ⟨h, fun _ h => by cases h⟩
  | _ :: _, _, ⟨c, r, e, h1, h2⟩ => by
    subst e; obtain ⟨h1, ho⟩ := h1; subst h1
    obtain ⟨i1, i2⟩ := flat_of_reps h2
    exact ⟨by rw [List.flatMap_cons, i1], fun x hx => (List.mem_cons.1 hx).elim (fun h => h ▸ ho) (i2 x)⟩
theorem strs_of_reps : ∀ {l : List ByteArray} {cs : List Value}, Reps (fun (s : ByteArray) c => c = [Value.string s] ∧ s.size ≤ maxLen) l cs → cs = l.map Value.string ∧ ∀ e ∈ l, e.size ≤ maxLen
  | [], _, h => ⟨h, fun _ h => by cases h⟩
  | _ :: _, _, ⟨c, r, e, h1, h2⟩ => by
    subst e; obtain ⟨h1, ho⟩ := h1; subst h1
    obtain ⟨i1, i2⟩ := strs_of_reps h2
    exact ⟨by rw [List.map_cons, i1]; rfl, fun x hx => (List.mem_cons.1 hx).elim (fun h => h ▸ ho) (i2 x)⟩

set_option maxRecDepth 100000 in
theorem lifted (os : Os) (started : os.Started) (H : Type) (enc : TypeId × Value → H) :
    ReturnsInHanded {} Try.checked os 4 .any (Rows.eventKnownMatchesSpecSpec.pre6 enc Try.prog Try.f4 Rows.eventKnownMatchesSpecRow.domain false) (Rows.eventKnownMatchesSpecSpec.post enc Try.prog Try.f4 false true false false) := by
  refine returnsInHanded_of_change_sized (C := Try.checked) own started (by kernel_rfl) Try.func4
    (ChangeSpec.witness6 (enc := enc) (C := Try.checked) false ⟨#[], #[.slice none 0 0, .slice none 0 0], []⟩ 8 (by kernel_rfl) (by kernel_rfl) (by kernel_rfl) (by kernel_rfl)) ?_
  intro W base args ds gs before hval0 hW hcnd hsz0 _
  have hval : ∀ (j : Nat) t v, Try.f4.params[j]? = some t → args[j]? = some v → Value.okWide Try.prog W .any base t v := hval0
  have hW' := hW
  obtain ⟨p, q, hA0, hV, rfl, hfz, hnd⟩ := hW
  have hA : DataW.TrodAll enc Try.prog W 0 (fun _ => true) true Try.f4.params.toList args.toList ds p := hA0
  rw [Try.params4] at hA hval
  obtain ⟨v0, vs0, d0, ds0, p0, q0, hargs, rfl, rfl, h0, r0⟩ := trodAll_cons hA
  obtain ⟨v1, vs1, d1, ds1, p1, q1, rfl, rfl, rfl, h1, r1⟩ := trodAll_cons r0
  obtain ⟨rfl, rfl, rfl⟩ := trodAll_nil r1
  obtain rfl : args = #[v0, v1] := by cases args; simp_all
  obtain ⟨rfl, rfl⟩ := trodVars_none hV
  obtain ⟨n0, g0⟩ := h0
  obtain ⟨n1, g1⟩ := h1
  obtain ⟨a', n', c', rfl⟩ := okWide_slice Try.underlying37 (hval 0 37 v0 rfl rfl)
  obtain ⟨a'', n'', c'', rfl⟩ := okWide_slice Try.underlying38 (hval 1 38 v1 rfl rfl)
  obtain ⟨a, l, cap, cells, e0, s0, rp⟩ := read_slice (R := fun (s : Ev) c => c = evL s ∧ s.ok) (sz := 8) (by rintro x c ⟨rfl, _⟩; rfl) Try.underlying37 (by kernel_rfl) (by omega)
    (fun n cs' y _ ht => by obtain ⟨k0, k1, k2, k3, k4, k5, k6, k7, e, o0, _, _, _, o4, o5, _⟩ := read_Event _ _ _ ht; exact ⟨⟨k0, k1, k2, k3, k4, k5, k6, k7⟩, e, o0, o4, o5⟩) g0
  obtain ⟨a2, L, cap2, cells2, e1, s1, rp2⟩ := read_slice (R := fun (s : ByteArray) c => c = [Value.string s] ∧ s.size ≤ maxLen) (sz := 1) (by rintro x c ⟨rfl, _⟩; rfl) Try.underlying38 (by kernel_rfl) (by omega)
    (fun n cs' y _ ht => by obtain ⟨x0, h0, _, w0⟩ := DataW.trod_string Try.underlying9 ht; exact ⟨x0, h0, w0⟩) g1
  have hv0 : Value.slice a' n' c' = .slice a l.length cap := by simpa [Value.cells] using e0
  have hv1 : Value.slice a'' n'' c'' = .slice a2 L.length cap2 := by simpa [Value.cells] using e1
  obtain ⟨hc1, ho1⟩ := flat_of_reps rp
  obtain ⟨hc2, ho2⟩ := strs_of_reps rp2
  rw [hc1] at s0
  rw [hc2] at s1
  rw [hv0, hv1]
  rw [hv0, hv1] at hW'
  refine (walk l ho1 L ho2 a a2 cap cap2 W s0 s1).mono fun e W' ⟨he, hg⟩ => ?_
  subst he
  exact ⟨_, rfl, law_post laidOut rfl hW' hg (by kernel_rfl) (by kernel_rfl) Try.underlying4 rfl⟩

theorem over : Rows.eventKnownMatchesSpecRow.holds Try.pinned (OpenSpec.ofChange Rows.eventKnownMatchesSpecSpec) :=
  OpenClaim.holds_of_wide 4 Try.f4 rfl rfl rfl rfl rfl rfl rfl ⟨rfl, rfl, rfl, rfl, rfl⟩ rfl rfl rfl rfl rfl (by kernel_rfl) Try.func4 (by kernel_rfl)
    (of_decide_eq_true (by kernel_rfl)) (by unfold Func.isWrapper; first | (rw [if_pos (by decide +kernel)]; kernel_rfl) | (rw [if_neg (by decide +kernel)]; exact ⟨rfl, rfl⟩))
    (fun os started H enc _ => lifted os started H enc)

theorem proved : Rows.EventKnownMatchesSpecSaid := over
end Go.Proofs.Ytbbfdkjamjmbmaa.lawKnown
