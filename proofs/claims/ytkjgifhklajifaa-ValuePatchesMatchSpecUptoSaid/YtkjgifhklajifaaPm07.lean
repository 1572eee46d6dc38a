/- Plain: a patch laid on field by field; rows of fields that are written. Printed by gen_vmrg.py. find of package value: where a name stands in fields that are in order. Printed by gen_vfnd.py. slices.Delete and slices.Insert at fields. Printed by gen_vdel.py. -/
import Derived.Test.YtkjgifhklajifaaPm02
import Derived.Test.YtkjgifhklajifaaPm03
import Derived.Test.YtkjgifhklajifaaPm06
import Derived.Test.YtkjgifhklajifaaPm00
import Derived.Test.YtkjgifhklajifaaPm01
import Derived.Deep.LoopGhost
import Derived.Deep.QuietTactic
import Derived.Deep.Cut
import Derived.Test.YtkjgifhklajifaaPm04
import Derived.Deep.RegionLaw
import Derived.Sort.WalkB12
import Derived.Lib.SlicesDelete
import Derived.Lib.Walk
import Derived.Maps.AppendAt
namespace Go.Proofs.Ytkjgifhklajifaa
open Go.RowKit
namespace Fd
open _root_.Go.Proofs.Ytkjgifhklajifaa.Rw (All2 All2.length All2.get All2.mono All2.set All2.append All2.take All2.drop Kept Fresh fl_len fl_take)
theorem mergeFs_snoc (nm : ByteArray) (y : V) : ∀ (l out : List F), mergeFs out (l ++ [.mk nm y]) = if kind y = 0 then dropF nm (mergeFs out l) else putF nm (mergeV ((lk (mergeFs out l) nm).getD V0) y) (mergeFs out l)
  | [], out => by simp only [List.nil_append, mergeFs]
  | .mk a x :: r, out => by
    rw [List.cons_append, mergeFs, mergeFs]
    exact mergeFs_snoc nm y r _
theorem base_set {x : V} (h : chkV x = 0) (fs : List F) : setFields (base x) fs = obj fs := by
  unfold base
  by_cases hk : kind x = 5
  · rw [if_pos hk, obj_is h hk]; rfl
  · rw [if_neg hk]; rfl
theorem base_right {x : V} (h : chkV x = 0) : Srt (fields (base x)) ∧ ∀ f ∈ fields (base x), chkV (vlF f) = 0 := by
  unfold base
  by_cases hk : kind x = 5
  · rw [if_pos hk]; exact fields_ok h
  · rw [if_neg hk]; exact ⟨List.Pairwise.nil, fun f hf => by cases hf⟩
theorem fs_len {x : V} (h : chkV x = 0) : (fields x).length ≤ 100 ∧ (items x).length ≤ 100 := by
  obtain ⟨k, n, s, is, fs⟩ := x
  obtain ⟨hown, _⟩ := chkV_ok h
  show fs.length ≤ 100 ∧ is.length ≤ 100
  constructor <;> (unfold ownF at hown; split at hown <;> (try split at hown) <;> (try split at hown) <;> (try split at hown) <;> (try split at hown) <;> (try split at hown) <;> (try (simp at hown; done)) <;> omega)
theorem base_len {x : V} (h : chkV x = 0) : (fields (base x)).length ≤ 100 := by
  unfold base
  by_cases hk : kind x = 5
  · rw [if_pos hk]; exact (fs_len h).1
  · rw [if_neg hk]; exact Nat.zero_le _
theorem put_len (nm : ByteArray) (y : V) : ∀ l : List F, (putF nm y l).length ≤ l.length + 1
  | [] => by simp [putF]
  | f :: r => by
    unfold putF
    split
    · simp
    · split
      · simp
      · have := put_len nm y r; simp; omega
theorem merge_len : ∀ (l out : List F), (mergeFs out l).length ≤ out.length + l.length
  | [], out => by simp [mergeFs]
  | .mk nm x :: r, out => by
    rw [mergeFs]
    refine Nat.le_trans (merge_len r _) ?_
    rw [List.length_cons]
    split
    · have : (dropF nm out).length ≤ out.length := List.length_filter_le _ _
      omega
    · have := put_len nm (mergeV ((lk out nm).getD V0) x) out
      omega
theorem srt_ne' {l : List F} (h : Srt l) : l.Pairwise (fun a b => nmF a ≠ nmF b) := h.imp (fun h => lt_ne h)
/-- a name that no field of the patch had yet -/
theorem lk_untouched {us fs : List F} {q : Nat} {nm : ByteArray} {y : V} (hu : Srt us) (hf : Srt fs) (hq : us[q]? = some (.mk nm y)) : lk (mergeFs fs (us.take q)) nm = lk fs nm := by
  have hp := srt_ne' hu
  rw [lk_mergeFs hf (hp.sublist (List.take_sublist _ _))]
  have hn : lk (us.take q) nm = none := lk_none (fun g hg e => by
    obtain ⟨hlt, e2⟩ := List.getElem?_eq_some_iff.1 hq
    obtain ⟨j, hj, rfl⟩ := List.getElem_of_mem hg
    rw [List.length_take] at hj
    rw [List.getElem_take] at e
    have h1 : cmpS (nmF us[j]) (nmF us[q]) < 0 := List.pairwise_iff_getElem.1 hu j q (by omega) hlt (by omega)
    rw [e2] at h1
    exact lt_ne h1 e)
  rw [hn]
theorem take_snoc {α : Type} {l : List α} {q : Nat} {x : α} (h : l[q]? = some x) : l.take (q + 1) = l.take q ++ [x] := by
  obtain ⟨hq, rfl⟩ := List.getElem?_eq_some_iff.1 h
  exact List.take_succ_eq_append_getElem hq
section
variable {N : Nat} {w w' : World} {fs : List F} {E : List (List Value)}
theorem TopF.mono {v : Value} (h : TopF N w fs v E) {M : Nat} (hM : M ≤ N) : TopF M w fs v E :=
  ⟨Rw.own_mono h.own hM, h.el.mono (fun _ _ hr w'' k => hr w'' (fun q h1 h2 h3 => k q (by omega) h2 h3))⟩
theorem TopF.form {v : Value} (h : TopF N w fs v E) (hn : 0 < fs.length) : ∃ g cap, v = .slice (some ⟨g, 0, none⟩) fs.length cap ∧ N ≤ g ∧ g < w.heap.size := h.own.form hn
theorem TopF.shape {v : Value} (h : TopF N w fs v E) : ∃ a c, v = .slice a fs.length c := by
  obtain ⟨a, c, e, _⟩ := h.sl
  exact ⟨a, c, e⟩
/-- an element's value is written anew -/
theorem TopF.put {g cap i n M : Nat} {nm : ByteArray} {c0 c : List Value} {m : V} (h : TopF N w fs (.slice (some ⟨g, 0, none⟩) n cap) E) (hE : E[i]? = some (.string nm :: c0)) (hnm : nm.size ≤ maxLen) (hc : FreV M w m c) (hl : c.length = 5) (hNM : N ≤ M) (hg : g < M) :
    TopF N (w.setCells g (i * 6 + 1) c) (fs.set i (.mk nm m)) (.slice (some ⟨g, 0, none⟩) n cap) (E.set i (.string nm :: c)) ∧ w.grownBy (w.setCells g (i * 6 + 1) c) (some g) := by
  obtain ⟨_, _, e, _⟩ := h.sl
  cases e
  obtain ⟨k1, k2⟩ := Rw.ownsRow_setCells c (i * 6 + 1) w E.flatten h.own
  refine ⟨⟨by rw [List.length_set, ← fl_put1 h.six hE hl]; exact k1, All2.set ?_ i (h.els k2 (.inl rfl))⟩, k2⟩
  exact el_new (w1 := w) (fre_field hc hnm) hNM k2.size (fun q h1 h2 => k2.block q h2 (by simp; omega)) (fun q h1 h2 => by show some q ≠ some g; simp; omega)
/-- one element goes -/
theorem TopF.del {g cap n i : Nat} (h : TopF N w fs (.slice (some ⟨g, 0, none⟩) n cap) E) (hi : i < n) (hown : w'.ownsRow N 38 6 (.slice (some ⟨g, 0, none⟩) (i + (n - (i + 1))) cap) (i + (n - (i + 1))) (E.flatten.take (i * 6) ++ E.flatten.drop ((i + 1) * 6))) (hg : w.grownBy w' (some g)) :
    TopF N w' (fs.take i ++ fs.drop (i + 1)) (.slice (some ⟨g, 0, none⟩) (i + (n - (i + 1))) cap) (E.take i ++ E.drop (i + 1)) := by
  obtain ⟨_, _, e, _⟩ := h.sl
  have hn : fs.length = n := by injection e with _ e2 _; exact e2.symm
  rw [(fl_take h.six i).1, (fl_take h.six (i + 1)).2, ← List.flatten_append] at hown
  refine ⟨?_, All2.append ((h.els hg (.inl rfl)).take i) ((h.els hg (.inl rfl)).drop (i + 1))⟩
  rw [show (fs.take i ++ fs.drop (i + 1)).length = i + (n - (i + 1)) by rw [List.length_append, List.length_take, List.length_drop]; omega]
  exact hown
/-- one element more -/
theorem TopF.ins {v v' : Value} {i M : Nat} {nm : ByteArray} {c : List Value} {m : V} {w1 : World} (h : TopF N w fs v E) (hi : i ≤ fs.length) (hnm : nm.size ≤ maxLen) (hc : FreV M w1 m c) (hNM : N ≤ M) (hs : w1.heap.size ≤ w.heap.size) (hk : Kept M w1 w) (hg : ∀ q, v.ownBlock = some q → q < M)
    (hown : w'.ownsRow N 38 6 v' (fs.length + 1) (E.flatten.take (i * 6) ++ (.string nm :: c) ++ E.flatten.drop (i * 6))) (hgr : w.grownBy w' v.ownBlock) (hv : v'.ownBlock = v.ownBlock ∨ v'.ownBlock = some w.heap.size) :
    TopF N w' (fs.take i ++ .mk nm m :: fs.drop i) v' (E.take i ++ (.string nm :: c) :: E.drop i) := by
  rw [(fl_take h.six i).1, (fl_take h.six i).2] at hown
  have hels := h.els hgr hv
  refine ⟨?_, All2.append (hels.take i) ⟨?_, hels.drop i⟩⟩
  · rw [show (fs.take i ++ F.mk nm m :: fs.drop i).length = fs.length + 1 by rw [List.length_append, List.length_cons, List.length_take, List.length_drop]; omega]
    have e : (E.take i ++ (.string nm :: c) :: E.drop i).flatten = (E.take i).flatten ++ (.string nm :: c) ++ (E.drop i).flatten := by simp
    rw [e]; exact hown
  · refine el_new (fre_field hc hnm) hNM (Nat.le_trans hs hgr.size) (fun q h1 h2 => (hgr.block q (by omega) (fun e => ?_)).trans (hk q h1 h2)) (fun q h1 h2 => ?_)
    · have := hg q e.symm; omega
    · rcases hv with hv | hv
      · rw [hv]; intro e; have := hg q e.symm; omega
      · rw [hv]; simp; omega
end
theorem wp_vr3 {P : Program} {c : Code} {Q : Exit → Act → World → Prop} {a : Act} {w : World} {A B C : Array Value} {t u v : TypeId}
    (h : ∀ W, Below w.heap.size w W → Nt.RH W w.heap.size A t → Nt.RH W (w.heap.size + 1) B u → Nt.RH W (w.heap.size + 2) C v → c.wp P Q a W) : c.wp P Q a (((w.alloc (.cells A t)).alloc (.cells B u)).alloc (.cells C v)) := by
  refine h _ (by go_grown) (((Nt.RH.new w A t).ext (ext_alloc _ _)).ext (ext_alloc _ _)) ?_ ?_
  · have := Nt.RH.new (w.alloc (.cells A t)) B u
    exact Nt.RH.ext (by simpa using this) (ext_alloc _ _)
  · have := Nt.RH.new ((w.alloc (.cells A t)).alloc (.cells B u)) C v
    simpa using this
end Fd
end Go.Proofs.Ytkjgifhklajifaa
namespace Go.Proofs.Ytkjgifhklajifaa
open Go.RowKit
namespace Fd
open _root_.Go.Proofs.Ytkjgifhklajifaa.Rw (All2 All2.get All2.length wpList_load_agg)
set_option maxRecDepth 100000 in
set_option maxHeartbeats 8000000 in
theorem find1_at (c : List Value) (f : F) (nm : ByteArray) (w : World) (h : RepF w f c) :
    Calls Try.prog 44 #[.agg c.toArray, .string nm] w fun e w' => e = .returned (.int .i64 (cmpS (nmF f) nm)) ∧ Below w.heap.size w w' := by
  obtain ⟨a, x⟩ := f
  simp only [RepF] at h
  obtain ⟨cv, rfl, _, hx⟩ := h
  obtain ⟨k, n, s, a1, m1, q1, a2, m2, q2, rfl⟩ := V5 hx
  show Calls Try.prog 44 #[.agg _, .string nm] w fun e w' => e = .returned (.int .i64 (cmpS a nm)) ∧ Below w.heap.size w w'
  clear hx
  go_enter Try.func44, Try.ntmps44
  go_upto_region 1 with (fail)
  refine wp_box1 fun X hszX hbX hX => ?_
  have g0 : X.cell? ⟨w.heap.size, 0, none⟩ = some (.string a) := hX.2 0
  clear hszX hX
  go_wp2_with (go_at_call 35; refine (strings_Compare _ _ _).mono ?_; rintro e w' ⟨rfl, rfl⟩)
  go_ret
  exact ⟨rfl, hbX⟩
def FndPost (l : List F) (nm : ByteArray) (w : World) (e : Ending) (w' : World) : Prop := ∃ (i : Nat) (b : Bool), e = .returned (.tuple #[.int .i64 (i : Int), .bool b]) ∧ FindAt l nm i b ∧ Below w.heap.size w w'
theorem lt_mono {l : List F} (hs : Srt l) {nm : ByteArray} {a b : Nat} {f g : F} (hab : a ≤ b) (hf : l[a]? = some f) (hg : l[b]? = some g) (h : cmpS (nmF g) nm < 0) : cmpS (nmF f) nm < 0 := by
  rcases Nat.eq_or_lt_of_le hab with e | e
  · subst e; rw [hf] at hg; cases hg; exact h
  · obtain ⟨ha, rfl⟩ := List.getElem?_eq_some_iff.1 hf
    obtain ⟨hb, rfl⟩ := List.getElem?_eq_some_iff.1 hg
    exact lt_trans (List.pairwise_iff_getElem.1 hs a b ha hb e) h
set_option maxRecDepth 100000 in
set_option maxHeartbeats 8000000 in
theorem bsf_at (l : List F) (hs : Srt l) (hl : l.length ≤ 100000) (nm : ByteArray) (a : Option Addr) (c : Nat) (E : List (List Value)) (w : World) (hS : Sl w (.slice a l.length c) l.length E.flatten) (hE : All2 (RepF w) l E) :
    Calls Try.prog 43 #[.slice a l.length c, .string nm, .func (.func 44) #[] #[]] w (FndPost l nm w) := by
  have HS := Lib.hid hS
  have HE := Lib.hid hE
  have HR := Lib.hid hs
  clear hS hE hs
  go_enter Try.func43, Try.ntmps43
  go_wp2
  go_loopg [9, 10] l.length (fun kx s9 s10 wr => ∃ lo hi : Nat, s9 = .int .i64 lo ∧ s10 = .int .i64 hi ∧ lo ≤ hi ∧ hi ≤ l.length ∧ hi - lo ≤ kx ∧ Below w.heap.size w wr ∧
    Hid ((∀ t f, t < lo → l[t]? = some f → cmpS (nmF f) nm < 0) ∧ (∀ t f, hi ≤ t → l[t]? = some f → ¬ cmpS (nmF f) nm < 0)))
  case atStart => exact ⟨0, l.length, rfl, rfl, Nat.zero_le _, Nat.le_refl _, by omega, Below.refl _ _, Lib.hid ⟨fun t f ht => absurd ht (Nat.not_lt_zero _), fun t f h1 h2 => absurd (List.getElem?_eq_some_iff.1 h2).1 (by omega)⟩⟩
  case round =>
    obtain ⟨lo, hi, rfl, rfl, hlh, hin, hg, hb, I⟩ := hrel
    by_cases hlt : lo < hi
    · obtain ⟨h, hh⟩ : ∃ h, h = (lo + hi) / 2 := ⟨_, rfl⟩
      have ehz : ((lo : Int) + (hi : Int)) / 2 = (h : Int) := by omega
      have hh1 : lo ≤ h := by omega
      have hh2 : h < hi := by omega
      clear hh
      obtain ⟨f, hf⟩ : ∃ f, l[h]? = some f := ⟨_, List.getElem?_eq_getElem (by omega)⟩
      obtain ⟨cf, hcf, hrf⟩ := All2.get HE.out hf
      have hrw := RepF.ext hb hrf
      obtain ⟨p, o, rfl, hp, hcell⟩ := sl_elem (HS.out.ext hb) (all_len (fun _ _ => RepF.len) HE.out) (by omega) hcf
      have HC := Lib.hid (fun W (hW : Below wr.heap.size wr W) => find1_at cf f nm W (RepF.ext hW hrw))
      have HF := Lib.hid hf
      have hrw2 := hrw
      obtain ⟨a, x⟩ := f
      simp only [RepF] at hrw2
      obtain ⟨cv, rfl, _, hx⟩ := hrw2
      obtain ⟨k, n, s, a1, m1, q1, a2, m2, q2, rfl⟩ := V5 hx
      have z0 := hcell 0 _ rfl
      have z1 := hcell 1 _ rfl
      have z2 := hcell 2 _ rfl
      have z3 := hcell 3 _ rfl
      have z4 := hcell 4 _ rfl
      have z5 := hcell 5 _ rfl
      rw [← Nat.add_assoc] at z1 z2 z3 z4 z5
      rw [Nat.add_zero] at z0
      have HCC : Hid (Calls Try.prog 44 #[.agg #[.string a, .int .i64 k, .int .i64 n, .string s, .slice a1 m1 q1, .slice a2 m2 q2], .string nm] wr fun e w' => e = .returned (.int .i64 (cmpS a nm)) ∧ Below wr.heap.size wr w') := Lib.hid (HC.out wr (Below.refl _ _))
      clear hrw hrf hcf hf hcell hx HC hp
      by_cases hlt2 : cmpS a nm < 0
      · have I2 : Hid ((∀ t f, t < h + 1 → l[t]? = some f → cmpS (nmF f) nm < 0) ∧ (∀ t f, hi ≤ t → l[t]? = some f → ¬ cmpS (nmF f) nm < 0)) := Lib.hid ⟨fun t f ht hf => lt_mono HR.out (by omega) hf HF.out hlt2, I.out.2⟩
        go_wp2_with (go_at_call 44; refine HCC.out.mono ?_; rintro e w2 ⟨rfl, hb2⟩)
        go_roundg (hi - (h + 1))
        case measure => omega
        case rel => exact ⟨h + 1, hi, by go_num, rfl, by omega, hin, Nat.le_refl _, ext_trans hb hb2, I2⟩
      · have I2 : Hid ((∀ t f, t < lo → l[t]? = some f → cmpS (nmF f) nm < 0) ∧ (∀ t f, h ≤ t → l[t]? = some f → ¬ cmpS (nmF f) nm < 0)) := Lib.hid ⟨I.out.1, fun t f ht hf h9 => hlt2 (lt_mono HR.out ht HF.out hf h9)⟩
        go_wp2_with (go_at_call 44; refine HCC.out.mono ?_; rintro e w2 ⟨rfl, hb2⟩)
        go_roundg (h - lo)
        case measure => omega
        case rel => exact ⟨lo, h, rfl, rfl, hh1, by omega, Nat.le_refl _, ext_trans hb hb2, I2⟩
    · obtain rfl : hi = lo := by omega
      by_cases hn : hi < l.length
      · obtain ⟨f, hf⟩ : ∃ f, l[hi]? = some f := ⟨_, List.getElem?_eq_getElem hn⟩
        obtain ⟨cf, hcf, hrf⟩ := All2.get HE.out hf
        have hrw := RepF.ext hb hrf
        obtain ⟨p, o, rfl, hp, hcell⟩ := sl_elem (HS.out.ext hb) (all_len (fun _ _ => RepF.len) HE.out) (by omega) hcf
        have HC := Lib.hid (fun W (hW : Below wr.heap.size wr W) => find1_at cf f nm W (RepF.ext hW hrw))
        have HF := Lib.hid hf
        have hrw2 := hrw
        obtain ⟨a, x⟩ := f
        simp only [RepF] at hrw2
        obtain ⟨cv, rfl, _, hx⟩ := hrw2
        obtain ⟨k, n, s, a1, m1, q1, a2, m2, q2, rfl⟩ := V5 hx
        have z0 := hcell 0 _ rfl
        have z1 := hcell 1 _ rfl
        have z2 := hcell 2 _ rfl
        have z3 := hcell 3 _ rfl
        have z4 := hcell 4 _ rfl
        have z5 := hcell 5 _ rfl
        rw [← Nat.add_assoc] at z1 z2 z3 z4 z5
        rw [Nat.add_zero] at z0
        have HCC : Hid (Calls Try.prog 44 #[.agg #[.string a, .int .i64 k, .int .i64 n, .string s, .slice a1 m1 q1, .slice a2 m2 q2], .string nm] wr fun e w' => e = .returned (.int .i64 (cmpS a nm)) ∧ Below wr.heap.size wr w') := Lib.hid (HC.out wr (Below.refl _ _))
        clear hrw hrf hcf hf hcell hx HC hp
        have HPF : Hid (∀ b : Bool, (b = true ↔ cmpS a nm = 0) → FindAt l nm hi b) := Lib.hid (fun b hb9 => ⟨hin, I.out.1, I.out.2, by
          rw [hb9]
          constructor
          · intro h9; exact ⟨_, HF.out, cmpS_zero h9⟩
          · rintro ⟨g, hg, h9⟩
            rw [HF.out] at hg
            cases hg
            show cmpS a nm = 0
            rw [show a = nm from h9, cmpS_self]⟩)
        by_cases h0 : cmpS a nm = 0
        · have HPB := Lib.hid (HPF.out true (by simp [h0]))
          go_wp2_with (go_at_call 44; refine HCC.out.mono ?_; rintro e w2 ⟨rfl, hb2⟩)
          go_ret2
          exact ⟨hi, true, by first | rfl | simp [h0], HPB.out, ext_trans hb hb2⟩
        · have HPB := Lib.hid (HPF.out false (by simp [h0]))
          go_wp2_with (go_at_call 44; refine HCC.out.mono ?_; rintro e w2 ⟨rfl, hb2⟩)
          go_ret2
          exact ⟨hi, false, by first | rfl | simp [h0], HPB.out, ext_trans hb hb2⟩
      · have HPB : Hid (FindAt l nm hi false) := Lib.hid ⟨hin, I.out.1, I.out.2, by
          constructor
          · intro h9; cases h9
          · rintro ⟨g, hg, _⟩
            exact absurd (List.getElem?_eq_some_iff.1 hg).1 hn⟩
        go_wp2
        go_ret2
        exact ⟨hi, false, rfl, HPB.out, hb⟩
theorem find_at (l : List F) (hs : Srt l) (hl : l.length ≤ 100000) (nm : ByteArray) (a : Option Addr) (c : Nat) (E : List (List Value)) (w : World) (hS : Sl w (.slice a l.length c) l.length E.flatten) (hE : All2 (RepF w) l E) :
    Calls Try.prog 21 #[.slice a l.length c, .string nm] w (FndPost l nm w) := by
  have HC := Lib.hid (bsf_at l hs hl nm a c E w hS hE)
  clear hS hE hs
  go_enter Try.func21, Try.ntmps21
  go_wp2_with (go_at_call 43; refine HC.out.mono ?_; rintro e w2 ⟨i, b, rfl, hf, hb2⟩)
  go_ret2
  exact ⟨i, b, rfl, hf, hb2⟩
end Fd
end Go.Proofs.Ytkjgifhklajifaa
namespace Go.Proofs.Ytkjgifhklajifaa
open Go.RowKit
namespace Fd
open _root_.Go.Proofs.Ytkjgifhklajifaa.Nt (RH RH.cell RH.box RH.lt RH.new RH.ext RH.fre RH.set RH.other)
/-- cells moved down, the rest cleared, cut short -/
theorem del_cells {k n i j : Nat} (xs Z : List Value) (hx : xs.length = n * k) (hij : i ≤ j) (hj : j ≤ n) (hZ : Z.length = (j - i) * k) :
    (Rw.setL (Rw.setL xs (i * k) (xs.drop (j * k))) ((i + (n - j)) * k) Z).take ((i + (n - j)) * k) = xs.take (i * k) ++ xs.drop (j * k) := by
  have e1 : i * k ≤ j * k := Nat.mul_le_mul_right k hij
  have e2 : j * k ≤ n * k := Nat.mul_le_mul_right k hj
  have e3 : (n - j) * k = n * k - j * k := Nat.sub_mul n j k
  have e4 : (j - i) * k = j * k - i * k := Nat.sub_mul j i k
  have e5 : (i + (n - j)) * k = i * k + (n * k - j * k) := by rw [Nat.add_mul, e3]
  have la : (xs.take (i * k)).length = i * k := by rw [List.length_take]; omega
  have h1 := Rw.setL_mid (xs.drop (j * k)) (xs.take (i * k)) ((xs.drop (i * k)).take (n * k - j * k)) ((xs.drop (i * k)).drop (n * k - j * k)) (by rw [List.length_take, List.length_drop, List.length_drop]; omega)
  rw [la, List.take_append_drop, List.take_append_drop] at h1
  rw [h1]
  have lb : (xs.take (i * k) ++ xs.drop (j * k)).length = (i + (n - j)) * k := by rw [List.length_append, la, List.length_drop]; omega
  have h2 := Rw.setL_mid Z (xs.take (i * k) ++ xs.drop (j * k)) ((xs.drop (i * k)).drop (n * k - j * k)) [] (by rw [List.length_drop, List.length_drop]; omega)
  rw [lb, List.append_nil, List.append_nil, List.append_assoc] at h2
  rw [h2]
  first | exact List.take_left' lb | (rw [← List.append_assoc]; exact List.take_left' lb)
theorem own_cut {w : World} {base e size n g cap : Nat} {xs : List Value} (h : w.ownsRow base e size (.slice (some ⟨g, 0, none⟩) n cap) n xs) {i : Nat} (hi : i ≤ n) : w.ownsRow base e size (.slice (some ⟨g, 0, none⟩) i cap) i (xs.take (i * size)) := by
  obtain ⟨h1, ⟨h2, _⟩ | ⟨g', cap', cur, hv, hb, hg, hn, hm, hs, ht⟩⟩ := h
  · cases h2
  · cases hv
    have hle : i * size ≤ n * size := Nat.mul_le_mul_right size hi
    refine ⟨by rw [List.length_take, h1]; omega, .inr ⟨g, cap, cur, rfl, hb, hg, by omega, hm, hs, ?_⟩⟩
    rw [← ht, List.take_take, Nat.min_eq_left hle]
/-- clear at structs: the cells hold zero values; nothing else turns. -/
theorem run_clear_own {P : Program} (w : World) (t e ty : TypeId) (zc : Array Value) (ht : P.underlying t = some (.slice e)) (hv : ∀ w, (zeroValue e).run P w = .ok (.agg zc) w) (h1 : ∀ v ∈ zc.toList, v.oneCell' = true) (hz : 0 < zc.size) (b o n c : Nat) (hn : 0 < n) (hc : w.there b o (n * zc.size)) :
    (Builtin.clear_ #[t] ty #[.slice (some ⟨b, o, none⟩) n c]).run P w = .ok (.tuple #[]) (w.setCells b o (Builtin.zeroCells zc n).toList) := by
  have hl : (Builtin.zeroCells zc n).toList.length = n * zc.size := by simp [size_zeroCells]
  have hst := run_storeCells_cells (P := P) b o (Builtin.zeroCells zc n).toList 0 w (by intro j hj; rw [hl] at hj; rw [Nat.add_zero]; exact (hc j hj).1) (by intro j hj; rw [hl] at hj; rw [Nat.add_zero]; exact (hc j hj).2)
    (by
      intro v hv'
      simp only [Builtin.zeroCells, Array.toList_map, List.mem_map] at hv'
      obtain ⟨i, _, rfl⟩ := hv'
      have hi : i % zc.size < zc.size := Nat.mod_lt _ hz
      refine h1 _ ?_
      first | (rw [getElem!_pos zc _ hi]; exact Array.getElem_mem_toList hi) | (rw [Array.getD_eq_getD_getElem?, Array.getElem?_eq_getElem hi]; exact Array.getElem_mem_toList hi))
  simp only [Nat.add_zero] at hst
  obtain ⟨m, rfl⟩ : ∃ m, n = m + 1 := ⟨n - 1, by omega⟩
  simp [Builtin.clear_, run_underlying ht, hv, Value.cells, hst]
set_option maxRecDepth 100000 in
set_option maxHeartbeats 8000000 in
theorem delF_at (w : World) (base g n cap i j : Nat) (xs : List Value) (hown : w.ownsRow base 38 6 (.slice (some ⟨g, 0, none⟩) n cap) n xs) (hij : i < j) (hj : j ≤ n) (_hn : n ≤ 100000) (h1x : ∀ u ∈ xs, u.oneCell' = true) :
    Calls Try.prog 22 #[.slice (some ⟨g, 0, none⟩) n cap, .int .i64 (i : Int), .int .i64 (j : Int)] w fun e w' => e = .returned (.slice (some ⟨g, 0, none⟩) (i + (n - j)) cap) ∧ w'.ownsRow base 38 6 (.slice (some ⟨g, 0, none⟩) (i + (n - j)) cap) (i + (n - j)) (xs.take (i * 6) ++ xs.drop (j * 6)) ∧ w.grownBy w' (some g) := by
  obtain ⟨i0, hi0⟩ : ∃ i, Try.prog.info? 38 = some i := by
    cases hq : Try.prog.info? 38 with
    | none => have := fI; rw [hq] at this; cases this
    | some i => exact ⟨i, rfl⟩
  have hci := fI
  rw [hi0] at hci
  simp only [Option.map_some, Option.some.injEq, Prod.mk.injEq] at hci
  obtain ⟨_, hz1, _⟩ := hci
  have hxl : xs.length = n * 6 := hown.1
  have hnm : n ≤ cap ∧ cap ≤ maxLen := by
    rcases hown.2 with ⟨h, _⟩ | ⟨_, _, _, h, _, _, h4, h5, _⟩
    · cases h
    · cases h; exact ⟨h4, h5⟩
  obtain ⟨hnc, hm⟩ := hnm
  have hm63 : (cap : Int) ≤ 9223372036854775807 := by unfold maxLen at hm; omega
  obtain ⟨news, hnews⟩ : ∃ news, news = xs.drop (j * 6) := ⟨_, rfl⟩
  have hlen : news.length = (n - j) * 6 := by rw [hnews, List.length_drop, hxl]; omega
  obtain ⟨A, hA, hsrc⟩ : ∃ A : Addr, (if cap = j then some (⟨g, 0, none⟩ : Addr) else some ⟨g, j * 6, none⟩) = some A ∧ Hid (∀ t u, news[t]? = some u → w.drew.cell? (A.add t) = some u) := by
    by_cases h : cap = j
    · refine ⟨⟨g, 0, none⟩, by simp [h], fun t u hu => ?_⟩
      have h0 : news.length = 0 := by rw [hlen]; omega
      rw [List.length_eq_zero_iff.1 h0] at hu
      simp at hu
    · refine ⟨⟨g, j * 6, none⟩, by simp [h], fun t u hu => ?_⟩
      have ht := (List.getElem?_eq_some_iff.1 hu).1
      rw [hlen] at ht
      rw [hnews, List.getElem?_drop] at hu
      rw [add_spot]
      show w.cell? _ = _
      rw [hown.cellAt (j * 6 + t) (by omega)]
      exact hu
  have s1 : Hid (news.length = (n - j) * 6) := hlen
  have s2 : Hid (∀ u ∈ news, u.oneCell' = true) := fun u hu => by rw [hnews] at hu; exact h1x u (List.mem_of_mem_drop hu)
  have s3 : Hid (∀ t, t < news.length → (w.drew.cell? ⟨g, 0 + i * 6 + t, none⟩).isSome = true ∧ w.drew.frozen? ⟨g, 0 + i * 6 + t, none⟩ = false) := fun t ht => by
    rw [hlen] at ht
    rw [Nat.zero_add]
    refine ⟨?_, hown.frozenAt _⟩
    show (w.cell? _).isSome = true
    rw [hown.cellAt (i * 6 + t) (by omega), List.getElem?_eq_getElem (by omega)]; rfl
  obtain ⟨W1, hW1⟩ : ∃ W1, W1 = w.drew.setCells g (0 + i * 6) news := ⟨_, rfl⟩
  obtain ⟨hO1, hG1⟩ : W1.ownsRow base 38 6 (.slice (some ⟨g, 0, none⟩) n cap) n (Rw.setL xs (i * 6) (xs.drop (j * 6))) ∧ w.grownBy W1 (some g) := by
    rw [hW1, hnews, Nat.zero_add]
    have h := Rw.ownsRow_setCells (xs.drop (j * 6)) (i * 6) w.drew xs hown.drew
    exact ⟨h.1, (⟨rfl, rfl, rfl, Nat.le_refl _, fun _ _ _ => rfl⟩ : w.grownBy w.drew (some g)).trans h.2⟩
  obtain ⟨ZZ, hZZ⟩ : ∃ ZZ, ZZ = (Builtin.zeroCells #[Value.string ⟨#[]⟩, .int .i64 0, .int .i64 0, .string ⟨#[]⟩, .slice none 0 0, .slice none 0 0] (n - (i + (n - j)))).toList := ⟨_, rfl⟩
  have hZl : ZZ.length = (j - i) * 6 := by
    rw [hZZ, Array.length_toList, size_zeroCells, show n - (i + (n - j)) = j - i by omega]
    rfl
  have hcl : ∀ ty, (Builtin.clear_ #[23] ty #[.slice (some ⟨g, (i + (n - j)) * 6, none⟩) (n - (i + (n - j))) (cap - (i + (n - j)))]).run Try.prog W1 = .ok (.tuple #[]) (W1.setCells g ((i + (n - j)) * 6) ZZ) := fun ty => by
    rw [hZZ]
    refine run_clear_own W1 23 38 ty #[Value.string ⟨#[]⟩, .int .i64 0, .int .i64 0, .string ⟨#[]⟩, .slice none 0 0, .slice none 0 0] Try.underlying23 (fun w => by kernel_rfl) (by simp [Value.oneCell']) (by decide) g ((i + (n - j)) * 6) _ _ (by omega) (fun t ht => ?_)
    have ht2 : t < (n - (i + (n - j))) * 6 := ht
    refine ⟨?_, hO1.frozenAt _⟩
    rw [hO1.cellAt ((i + (n - j)) * 6 + t) (by omega), List.getElem?_eq_getElem (by rw [Rw.setL_length]; omega)]; rfl
  have HFIN : Hid (Ending.returned (.slice (some ⟨g, 0, none⟩) (i + (n - j)) cap) = .returned (.slice (some ⟨g, 0, none⟩) (i + (n - j)) cap) ∧ (W1.setCells g ((i + (n - j)) * 6) ZZ).ownsRow base 38 6 (.slice (some ⟨g, 0, none⟩) (i + (n - j)) cap) (i + (n - j)) (xs.take (i * 6) ++ xs.drop (j * 6)) ∧ w.grownBy (W1.setCells g ((i + (n - j)) * 6) ZZ) (some g)) := Lib.hid (by
    have h := Rw.ownsRow_setCells ZZ ((i + (n - j)) * 6) W1 _ hO1
    have h2 := own_cut h.1 (i := i + (n - j)) (by omega)
    rw [del_cells xs ZZ hxl (by omega) hj hZl] at h2
    exact ⟨rfl, h2, hG1.trans h.2⟩)
  have hic : i ≤ cap := by omega
  have hjc : j ≤ cap := by omega
  have hne : ¬ i = j := by omega
  have hW : Hid (W1 = w.drew.setCells g (0 + i * 6) news) := hW1
  have mixed : Try.prog.follows .mixedOrders = true := by kernel_rfl
  clear hO1 hG1 hZl hZZ hown hxl hlen hnews hW1 h1x
  go_enter Try.func22, Try.ntmps22
  go_wp2_with fail
  go_region_law_o (refine step_append_room rfl (.tmp 22) (.tmp 25) 23 rfl 38 i0 6 Try.underlying23 hi0 hz1 g 0 i cap (by simp [Act.eval, Act.put]) A (n - j) (cap - j) news (by simp [Act.eval, Act.put]) s1.out hsrc.out s2.out (by omega) s3.out ?_; rw [← hW.out])
  go_wp2
  go_ret
  exact ⟨rfl, HFIN.out.2⟩
end Fd
end Go.Proofs.Ytkjgifhklajifaa
