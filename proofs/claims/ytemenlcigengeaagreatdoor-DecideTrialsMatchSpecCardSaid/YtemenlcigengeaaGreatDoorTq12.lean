/- The stable sort's merge: the whole of it. Plain: sorted blocks, merged two by two. Plain: blocks that are merged stand to one another as they stood at first; the sort by insertion asks of the comparison no more than that. The stable sort: blocks sorted by insertion, merged two by two. SortStableFunc, over any program that holds the bodies. The seat's program holds what the stable sort asks for. The sort by insertion at the seat's program; the stable sort there. SortStableFunc at the seat's program: sorted, a permutation, and stable. -/
import Derived.Test.YtemenlcigengeaaGreatDoorTq11
import Derived.Test.YtemenlcigengeaaGreatDoorTq09
namespace Go.Proofs.YtemenlcigengeaaGreatDoor
namespace St
open Go.Shelf Go.RowKit Go.Lib Go.Sort
variable {P : Program} {α : Type} [Inhabited α]
theorem symMerge (k : Nat) (L : Lay P k) (F94 : P.funcs[137]? = some Tryz.f137) (e94 : ∀ args w, (callFunc 137 args).run P w = .ok (.enter 137 args) w) (F92 : P.funcs[114]? = some Tryz.f114) (e92 : ∀ args w, (callFunc 114 args).run P w = .ok (.enter 114 args) w) (FG : P.funcs[91]? = some Tryz.f91) (e85 : ∀ args w, (callFunc 91 args).run P w = .ok (.enter 91 args) w) (enc : α → List Value) (cf : α → α → Int) {lt : α → α → Bool} {Q : α → α → Prop} (hQ : ∀ x y, Q x y → lt x y = ltOf cf x y) (hS : SWO lt) (g : Nat) (cb : Array Value) (blk off cap size : Nat) (d0 : Array α) (w0 : World)
    (eg : ∀ args w, (callFunc g args).run P w = .ok (.enter g args) w) (hcmp : CmpLays P g cb enc k cf blk off size w0)
    (R : RowK enc k w0 blk off d0) (hs : d0.size = size) (hsz : size < 4611686018427387904) : ∀ n a m b, b - a < n → a < m → m < b → b ≤ size → Sym P enc k lt Q g cb blk off cap size w0 a m b
  | 0, _, _, _, h, _, _, _ => absurd h (Nat.not_lt_zero _)
  | n + 1, a, m, b, hn, ham, hmb, hb => by
    have IH := symMerge k L F94 e94 F92 e92 FG e85 enc cf hQ hS g cb blk off cap size d0 w0 eg hcmp R hs hsz n
    intro d w hd S hL hR hX
    subst hd
    by_cases h1 : m = a + 1
    · subst h1
      have := symL k L FG enc cf hS g cb blk off cap a b d0 d w0 w eg hcmp R hs S hmb hb hsz hR (fun x h1 h2 => hQ _ _ (hX x a h1 h2 (Nat.le_refl _) (Nat.lt_succ_self _)))
      exact this
    · by_cases h2 : b = m + 1
      · subst h2
        have := symR k L FG enc cf hS g cb blk off cap a m d0 d w0 w eg hcmp R hs S (by omega) hb hsz hL (fun y h1 h2 => hQ _ _ (hX m y (Nat.le_refl _) (Nat.lt_succ_self _) h1 h2))
        exact this
      · by_cases hm : (a + b) / 2 < m
        · exact symHi k L F94 e94 F92 e92 FG e85 enc cf hQ hS g cb blk off cap a m b d0 d w0 w eg hcmp R hs S (by omega) (by omega) hb hsz hL hR hX hm (fun a' m' b' h ha hm hb' => IH a' m' b' (by omega) ha hm hb')
        · exact symLo k L F94 e94 F92 e92 FG e85 enc cf hQ hS g cb blk off cap a m b d0 d w0 w eg hcmp R hs S (by omega) (by omega) hb hsz hL hR hX hm (fun a' m' b' h ha hm hb' => IH a' m' b' (by omega) ha hm hb')
end St
end Go.Proofs.YtemenlcigengeaaGreatDoor
namespace Go.Proofs.YtemenlcigengeaaGreatDoor
namespace St
open Go.Sort
variable {α : Type} [Inhabited α] {lt : α → α → Bool}
omit [Inhabited α] in
theorem sorted_none [Inhabited α] {d : Array α} {a b : Nat} (h : b ≤ a + 1) : SortedIn lt a b d := fun x y h1 h2 h3 => by omega
theorem sorted_sub {d : Array α} {a b a' b' : Nat} (h : SortedIn lt a b d) (h1 : a ≤ a') (h2 : b' ≤ b) : SortedIn lt a' b' d := fun x y hx hxy hy => h x y (by omega) hxy (by omega)
theorem sorted_keep {d d' : Array α} {a b x y : Nat} (hp : PermIn a b d d') (h : y ≤ a ∨ b ≤ x) (hs : SortedIn lt x y d) : SortedIn lt x y d' := fun i j h1 h2 h3 => by
  rw [hp.2.1 i (by omega), hp.2.1 j (by omega)]; exact hs i j h1 h2 h3
/-- every block of bs places is sorted -/
def Blks (lt : α → α → Bool) (bs n : Nat) (d : Array α) : Prop := ∀ j, SortedIn lt (j * bs) (min ((j + 1) * bs) n) d
/-- q blocks of bs places are sorted, what ends at A -/
structure Ins (lt : α → α → Bool) (bs A : Nat) (d : Array α) : Prop where
  blk : ∃ q, A = q * bs ∧ ∀ j, j < q → SortedIn lt (j * bs) ((j + 1) * bs) d
theorem Ins.start (bs : Nat) (d : Array α) : Ins lt bs 0 d := ⟨0, by simp, fun j h => absurd h (Nat.not_lt_zero _)⟩
theorem Ins.step {bs A : Nat} {d d' : Array α} (h : Ins lt bs A d) (hp : PermIn A (A + bs) d d') (hs : SortedIn lt A (A + bs) d') : Ins lt bs (A + bs) d' := by
  obtain ⟨q, rfl, hq⟩ := h.blk
  refine ⟨q + 1, by rw [Nat.succ_mul], fun j hj => ?_⟩
  rcases Nat.lt_or_ge j q with h1 | h1
  · exact sorted_keep hp (Or.inl (Nat.mul_le_mul_right bs h1)) (hq j h1)
  · have : j = q := by omega
    subst this
    rw [Nat.succ_mul]; exact hs
theorem Ins.done {bs A n : Nat} {d d' : Array α} (h : Ins lt bs A d) (hn : n < A + bs) (hp : PermIn A n d d') (hs : SortedIn lt A n d') : Blks lt bs n d' := by
  obtain ⟨q, rfl, hq⟩ := h.blk
  intro j
  rcases Nat.lt_trichotomy j q with h1 | h1 | h1
  · exact sorted_sub (sorted_keep hp (Or.inl (Nat.mul_le_mul_right bs h1)) (hq j h1)) (Nat.le_refl _) (Nat.min_le_left _ _)
  · subst h1; exact sorted_sub hs (Nat.le_refl _) (Nat.min_le_right _ _)
  · have h2 : (q + 1) * bs ≤ j * bs := Nat.mul_le_mul_right bs h1
    rw [Nat.succ_mul] at h2
    exact sorted_none (Nat.le_trans (Nat.min_le_right _ _) (by omega))
/-- while blocks are merged two by two: A is reached -/
structure Mrg (lt : α → α → Bool) (bs A n : Nat) (d : Array α) : Prop where
  blk : ∃ q, A = q * (2 * bs) ∧ (∀ j, j < q → SortedIn lt (j * (2 * bs)) ((j + 1) * (2 * bs)) d) ∧ ∀ j, 2 * q ≤ j → SortedIn lt (j * bs) (min ((j + 1) * bs) n) d
theorem Mrg.start {bs n : Nat} {d : Array α} (h : Blks lt bs n d) : Mrg lt bs 0 n d := ⟨0, by simp, fun j h => absurd h (Nat.not_lt_zero _), fun j _ => h j⟩
theorem two_mul_mul (q bs : Nat) : 2 * q * bs = q * (2 * bs) := by rw [Nat.mul_comm 2 q, Nat.mul_assoc]
theorem Mrg.left {bs A n : Nat} {d : Array α} (h : Mrg lt bs A n d) : SortedIn lt A (min (A + bs) n) d := by
  obtain ⟨q, rfl, _, h2⟩ := h.blk
  have := h2 (2 * q) (Nat.le_refl _)
  rw [Nat.succ_mul (2 * q), two_mul_mul] at this
  exact this
theorem Mrg.right {bs A n : Nat} {d : Array α} (h : Mrg lt bs A n d) : SortedIn lt (A + bs) (min (A + 2 * bs) n) d := by
  obtain ⟨q, rfl, _, h2⟩ := h.blk
  have := h2 (2 * q + 1) (Nat.le_succ _)
  rw [Nat.succ_mul (2 * q + 1), Nat.succ_mul (2 * q), two_mul_mul] at this
  have e : q * (2 * bs) + bs + bs = q * (2 * bs) + 2 * bs := by omega
  rw [e] at this
  exact this
theorem Mrg.step {bs A n : Nat} {d d' : Array α} (h : Mrg lt bs A n d) (hp : PermIn A (A + 2 * bs) d d') (hs : SortedIn lt A (A + 2 * bs) d') : Mrg lt bs (A + 2 * bs) n d' := by
  obtain ⟨q, rfl, hq, h2⟩ := h.blk
  refine ⟨q + 1, by rw [Nat.succ_mul q], fun j hj => ?_, fun j hj => ?_⟩
  · rcases Nat.lt_or_ge j q with h1 | h1
    · exact sorted_keep hp (Or.inl (Nat.mul_le_mul_right _ h1)) (hq j h1)
    · have : j = q := by omega
      subst this
      rw [Nat.succ_mul j]; exact hs
  · refine sorted_keep hp (Or.inr ?_) (h2 j (by omega))
    have h3 : 2 * (q + 1) * bs ≤ j * bs := Nat.mul_le_mul_right bs hj
    rw [two_mul_mul, Nat.succ_mul q] at h3
    exact h3
theorem Mrg.done {bs A n : Nat} {d d' : Array α} (h : Mrg lt bs A n d) (hn : n < A + 2 * bs) (hp : PermIn A n d d') (hs : SortedIn lt A n d') : Blks lt (2 * bs) n d' := by
  obtain ⟨q, rfl, hq, h2⟩ := h.blk
  exact Ins.done ⟨q, rfl, hq⟩ hn hp hs
theorem Blks.all {bs n : Nat} {d : Array α} (h : Blks lt bs n d) (hn : n ≤ bs) : SortedIn lt 0 n d := by
  have := h 0
  rw [Nat.zero_mul, Nat.zero_add, Nat.one_mul, Nat.min_eq_right hn] at this
  exact this
end St
end Go.Proofs.YtemenlcigengeaaGreatDoor
namespace Go.Proofs.YtemenlcigengeaaGreatDoor
namespace St
open Go.Sort Go.Shelf
variable {α : Type} [Inhabited α] {lt : α → α → Bool} {Q : α → α → Prop}
/-- each place from p on stands to each one ahead of p as Q says -/
def Good (Q : α → α → Prop) (p n : Nat) (d : Array α) : Prop := ∀ x y, y < p → p ≤ x → x < n → Q d[x]! d[y]!
theorem Good.perm {p n a b : Nat} {d d' : Array α} (h : Good Q p n d) (hp : PermIn a b d d') (hb : b ≤ d.size) (hbn : b ≤ n) (hc : p ≤ a ∨ b ≤ p) : Good Q p n d' := by
  intro x y hy hx hxn
  rcases hc with hc | hc
  · rw [hp.2.1 y (Or.inl (by omega))]
    by_cases hin : a ≤ x ∧ x < b
    · exact permIn_all d d' a b (fun u => Q u d[y]!) hb hp (fun i h1 h2 => h i y hy (by omega) (by omega)) x hin.1 hin.2
    · rw [hp.2.1 x (by omega)]; exact h x y hy hx hxn
  · rw [hp.2.1 x (Or.inr (by omega))]
    by_cases hin : a ≤ y ∧ y < b
    · exact permIn_all d d' a b (fun u => Q d[x]! u) hb hp (fun i h1 h2 => h x i (by omega) hx hxn) y hin.1 hin.2
    · rw [hp.2.1 y (by omega)]; exact h x y hy hx hxn
theorem Good.none {p n : Nat} {d : Array α} (h : n ≤ p) : Good Q p n d := fun x y h1 h2 h3 => by omega
/-- while blocks are sorted: from A on all is as at first -/
structure TgI (Q : α → α → Prop) (bs A n : Nat) (d : Array α) : Prop where
  up : ∀ x y, A ≤ y → y < x → x < n → Q d[x]! d[y]!
  cut : ∀ j, j * bs ≤ A → Good Q (j * bs) n d
def TgB (Q : α → α → Prop) (bs n : Nat) (d : Array α) : Prop := ∀ j, Good Q (j * bs) n d
theorem TgI.start {bs n : Nat} {d : Array α} (h : ∀ x y, y < x → x < n → Q d[x]! d[y]!) : TgI Q bs 0 n d :=
  ⟨fun x y _ h2 h3 => h x y h2 h3, fun j hj x y hy _ _ => by omega⟩
theorem far {q j bs A : Nat} (hA : A = q * bs) (h : ¬ j * bs ≤ A) : A + bs ≤ j * bs := by
  subst hA
  have h1 : q + 1 ≤ j := by
    rcases Nat.lt_or_ge q j with h2 | h2
    · exact h2
    · exact absurd (Nat.mul_le_mul_right bs h2) h
  have h3 := Nat.mul_le_mul_right bs h1
  rw [Nat.succ_mul] at h3
  exact h3
theorem TgI.step {bs A n : Nat} {d d' : Array α} (h : TgI Q bs A n d) (hi : Ins lt bs A d) (hp : PermIn A (A + bs) d d') (hn : A + bs ≤ n) (hs : A + bs ≤ d.size) : TgI Q bs (A + bs) n d' := by
  obtain ⟨q, hA, _⟩ := hi.blk
  refine ⟨fun x y h1 h2 h3 => ?_, fun j hj => ?_⟩
  · rw [hp.2.1 x (by omega), hp.2.1 y (by omega)]; exact h.up x y (by omega) h2 h3
  · by_cases hc : j * bs ≤ A
    · exact (h.cut j hc).perm hp hs hn (Or.inl hc)
    · have h1 := far hA hc
      have e : j * bs = A + bs := by omega
      rw [e]
      refine Good.perm (fun x y hy hx hxn => ?_) hp hs hn (Or.inr (Nat.le_refl _))
      by_cases hyA : A ≤ y
      · exact h.up x y hyA (by omega) hxn
      · exact (hA ▸ h.cut q (Nat.le_of_eq hA.symm) : Good Q A n d) x y (by omega) (by omega) hxn
theorem TgI.done {bs A n : Nat} {d d' : Array α} (h : TgI Q bs A n d) (hi : Ins lt bs A d) (hn : n < A + bs) (hp : PermIn A n d d') (hs : n ≤ d.size) : TgB Q bs n d' := by
  obtain ⟨q, hA, _⟩ := hi.blk
  intro j
  by_cases hc : j * bs ≤ A
  · exact (h.cut j hc).perm hp hs (Nat.le_refl _) (Or.inl hc)
  · have h1 := far hA hc
    exact Good.none (by omega)
/-- while blocks are merged two by two -/
structure TgM (Q : α → α → Prop) (bs A n : Nat) (d : Array α) : Prop where
  mul : ∃ q, A = q * (2 * bs)
  big : ∀ j, Good Q (j * (2 * bs)) n d
  small : ∀ j, A ≤ j * bs → Good Q (j * bs) n d
theorem TgM.start {bs n : Nat} {d : Array α} (h : TgB Q bs n d) : TgM Q bs 0 n d :=
  ⟨⟨0, by simp⟩, fun j => by rw [← two_mul_mul]; exact h (2 * j), fun j _ => h j⟩
theorem TgM.cr {bs A n b : Nat} {d : Array α} (h : TgM Q bs A n d) (hb : b ≤ n) : Cr Q A (A + bs) b d := by
  obtain ⟨q, hA⟩ := h.mul
  have e : (2 * q + 1) * bs = A + bs := by rw [Nat.succ_mul, two_mul_mul, hA]
  have g := h.small (2 * q + 1) (by rw [e]; omega)
  rw [e] at g
  exact fun x y h1 h2 _ h4 => g x y h4 h1 (by omega)
theorem TgM.step {bs A n : Nat} {d d' : Array α} (h : TgM Q bs A n d) (hp : PermIn A (A + 2 * bs) d d') (hn : A + 2 * bs ≤ n) (hs : A + 2 * bs ≤ d.size) : TgM Q bs (A + 2 * bs) n d' := by
  obtain ⟨q, hA⟩ := h.mul
  refine ⟨⟨q + 1, by rw [hA]; exact (Nat.succ_mul q (2 * bs)).symm⟩, fun j => ?_, fun j hj => (h.small j (by omega)).perm hp hs hn (Or.inr hj)⟩
  refine (h.big j).perm hp hs hn ?_
  by_cases hc : j * (2 * bs) ≤ A
  · exact Or.inl hc
  · exact Or.inr (far hA hc)
theorem TgM.done {bs A n : Nat} {d d' : Array α} (h : TgM Q bs A n d) (hn : n < A + 2 * bs) (hp : PermIn A n d d') (hs : n ≤ d.size) : TgB Q (2 * bs) n d' := by
  obtain ⟨q, hA⟩ := h.mul
  intro j
  by_cases hc : j * (2 * bs) ≤ A
  · exact (h.big j).perm hp hs (Nat.le_refl _) (Or.inl hc)
  · have h1 := far hA hc
    exact Good.none (by omega)
/-- the sort by insertion compares an element with those that stood ahead of it alone -/
theorem insInner_eq {cf : α → α → Int} (hQ : ∀ x y, Q x y → lt x y = ltOf cf x y) (a : Nat) : ∀ (j : Nat) (d : Array α), j < d.size → (∀ y, a ≤ y → y < j → Q d[j]! d[y]!) → insInner lt a j d = insInner (ltOf cf) a j d
  | 0, _, _, _ => rfl
  | j + 1, d, hj, h => by
    unfold insInner
    by_cases ha : j + 1 > a
    · have e := hQ _ _ (h j (by omega) (Nat.lt_succ_self _))
      rw [e]
      split
      · refine insInner_eq hQ a j (swp d (j + 1) j) (by rw [size_swp]; omega) fun y h1 h2 => ?_
        rw [swp_right d (j + 1) j (by omega), swp_other d (j + 1) j y (by omega) (by omega)]
        exact h y h1 (by omega)
      · rfl
    · have e : ∀ b : Bool, (decide (j + 1 > a) && b) = false := fun b => by simp [ha]
      rw [e, e]; simp
theorem insInner_perm (lt : α → α → Bool) (a b : Nat) : ∀ (j : Nat) (d : Array α), j < b → b ≤ d.size → PermIn a b d (insInner lt a j d)
  | 0, d, _, _ => permIn_refl _ _ _
  | j + 1, d, hj, hb => by
    unfold insInner
    split
    · rename_i hc
      simp only [Bool.and_eq_true, decide_eq_true_eq] at hc
      exact permIn_trans _ _ _ _ _ (swp_permIn d a b (j + 1) j (by omega) hj (by omega) (by omega) hb) (insInner_perm lt a b j _ (by omega) (by rw [size_swp]; exact hb))
    · exact permIn_refl _ _ _
theorem insOuter_eq {cf : α → α → Int} (hQ : ∀ x y, Q x y → lt x y = ltOf cf x y) (a b : Nat) : ∀ (n i : Nat) (d : Array α), b - i = n → a < i → b ≤ d.size → (∀ x y, a ≤ y → y < x → i ≤ x → x < b → Q d[x]! d[y]!) → insOuter lt a b i d = insOuter (ltOf cf) a b i d
  | 0, i, d, hn, _, _, _ => by
    rw [insOuter, if_neg (by omega), insOuter, if_neg (by omega)]
  | n + 1, i, d, hn, hai, hb, h => by
    rw [insOuter, if_pos (by omega)]
    conv => rhs; rw [insOuter, if_pos (show i < b by omega)]
    rw [insInner_eq hQ a i d (by omega) (fun y h1 h2 => h i y h1 h2 (Nat.le_refl _) (by omega))]
    have hp := insInner_perm (ltOf cf) a (i + 1) i d (Nat.lt_succ_self _) (by omega)
    refine insOuter_eq hQ a b n (i + 1) _ (by omega) (by omega) (by rw [hp.1]; exact hb) fun x y h1 h2 h3 h4 => ?_
    rw [hp.2.1 x (by omega)]
    by_cases hy : y < i + 1
    · exact permIn_all d _ a (i + 1) (fun u => Q d[x]! u) (by omega) hp (fun k h5 h6 => h x k h5 (by omega) (by omega) h4) y h1 hy
    · rw [hp.2.1 y (by omega)]; exact h x y h1 h2 (by omega) h4
theorem ins_eq {cf : α → α → Int} (hQ : ∀ x y, Q x y → lt x y = ltOf cf x y) (d : Array α) (a b : Nat) (_hab : a ≤ b) (hb : b ≤ d.size) (h : ∀ x y, a ≤ y → y < x → x < b → Q d[x]! d[y]!) : insertionSort lt d a b = insertionSort (ltOf cf) d a b :=
  insOuter_eq hQ a b (b - (a + 1)) (a + 1) d rfl (Nat.lt_succ_self _) hb fun x y h1 h2 _ h4 => h x y h1 h2 h4
end St
end Go.Proofs.YtemenlcigengeaaGreatDoor
namespace Go.Proofs.YtemenlcigengeaaGreatDoor
namespace St
open Go.Shelf Go.RowKit Go.Lib Go.Sort
variable {P : Program} {α : Type} [Inhabited α]
/-- What the sort by insertion does on [a, b). -/
def InsC (P : Program) (enc : α → List Value) (k : Nat) (lt : α → α → Bool) (Q : α → α → Prop) (g : Nat) (cb : Array Value) (blk off cap size : Nat) (w0 : World) (a b : Nat) : Prop := ∀ (d : Array α) (w : World), d.size = size → SWK enc k w0 blk off d w → (∀ x y, a ≤ y → y < x → x < b → Q d[x]! d[y]!) →
  Calls P 90 #[.slice (some ⟨blk, off, none⟩) size cap, .int .i64 a, .int .i64 b, .func (.func g) #[] cb] w fun e w' => e = .returned (.tuple #[]) ∧ ∃ d', PermIn a b d d' ∧ SortedIn lt a b d' ∧ SWK enc k w0 blk off d' w'
theorem perm_wide {a b n : Nat} {d d1 d2 : Array α} (h : PermIn 0 n d d1) (h2 : PermIn a b d1 d2) (hb : b ≤ n) (hn : n ≤ d1.size) : PermIn 0 n d d2 := permIn_trans _ _ _ _ _ h (permIn_mono _ _ _ _ _ _ (Nat.zero_le _) hb hn h2)
set_option maxHeartbeats 8000000 in
set_option maxRecDepth 1000000 in
theorem stable (k : Nat) (L : Lay P k) (FG : P.funcs[62]? = some Tryz.f62) (e84 : ∀ args w, (callFunc 90 args).run P w = .ok (.enter 90 args) w) (e85 : ∀ args w, (callFunc 91 args).run P w = .ok (.enter 91 args) w) (enc : α → List Value) {lt : α → α → Bool} {Q : α → α → Prop} (g : Nat) (cb : Array Value) (blk off cap n : Nat) (d : Array α) (w0 w : World)
    (hU : ∀ x y, y < x → x < n → Q d[x]! d[y]!) (S : SWK enc k w0 blk off d w) (hn : n = d.size) (hsz : n < 1152921504606846976)
    (HI : ∀ a b, a ≤ b → b ≤ n → InsC P enc k lt Q g cb blk off cap n w0 a b) (HM : ∀ a m b, a < m → m < b → b ≤ n → Sym P enc k lt Q g cb blk off cap n w0 a m b) :
    Calls P 62 #[.slice (some ⟨blk, off, none⟩) n cap, .int .i64 n, .func (.func g) #[] cb] w fun e w' => e = .returned (.tuple #[]) ∧ ∃ d', PermIn 0 n d d' ∧ SortedIn lt 0 n d' ∧ SWK enc k w0 blk off d' w' := by
  have mixed := L.mixed; have t0 := L.t0; have a0 := L.a0; have z0 := L.z0; have v0 := L.v0; have t3 := L.t3; have a3 := L.a3; have z3 := L.z3; have v3 := L.v3; have t4 := L.t4; have a4 := L.a4; have z4 := L.z4; have v4 := L.v4; have tS := L.tS; have aS := L.aS; have zS := L.zS; have vS := L.vS; have tF := L.tF; have aF := L.aF; have zF := L.zF; have vF := L.vF
  have S0 : Aside (SWK enc k w0 blk off d w) := S
  have IA : Aside _ := HI
  have MA : Aside _ := HM
  have HN : Hid (n = d.size) := hn
  have HU : Aside _ := hU
  clear S HI HM hn hU
  go_enter FG, Tryz.ntmps62
  go_wp2
  go_loopg [7, 8] n (fun kx s7 s8 wr => ∃ (A : Nat) (dk : Array α), s7 = .int .i64 A ∧ s8 = .int .i64 ((A : Int) + 20) ∧ A ≤ n ∧ n - A ≤ kx ∧ Aside (SWK enc k w0 blk off dk wr) ∧ Hid (Ins lt 20 A dk ∧ TgI Q 20 A n dk) ∧ Hid (PermIn 0 n d dk))
  case atStart => exact ⟨0, d, rfl, rfl, by omega, by omega, S0, ⟨Ins.start _ _, TgI.start HU.out⟩, permIn_refl _ _ _⟩
  case round =>
    clear S0
    obtain ⟨A, dk, rfl, rfl, hA, hkx, S1, HI, HP⟩ := hrel
    have hdk : dk.size = n := HP.out.1.trans HN.out.symm
    have HDK : Hid (dk.size = n) := hdk
    clear hdk
    by_cases hlt : A + 20 ≤ n
    · have hltz : (A : Int) + 20 ≤ (n : Int) := by omega
      have hc := IA.out A (A + 20) (by omega) hlt dk _ HDK.out S1.out (fun x y h1 h2 h3 => HI.out.2.up x y h1 h2 (by omega))
      have ec : ((A + 20 : Nat) : Int) = (A : Int) + 20 := by omega
      rw [ec] at hc
      clear ec S1
      go_wp2_with (go_at_fn 90; refine hc.mono ?_; rintro e w1 ⟨rfl, d1, hp, hs, S2⟩)
      go_roundg (n - (A + 20))
      case measure => omega
      case rel => exact ⟨A + 20, d1, by first | rfl | (congr 1; omega), by first | rfl | (congr 1; omega), hlt, Nat.le_refl _, S2, ⟨HI.out.1.step hp hs, HI.out.2.step HI.out.1 hp hlt (by rw [HDK.out]; exact hlt)⟩, perm_wide HP.out hp hlt (by rw [HDK.out]; exact Nat.le_refl _)⟩
    · have hltz : ¬ (A : Int) + 20 ≤ (n : Int) := by omega
      have hc := IA.out A n hA (Nat.le_refl _) dk _ HDK.out S1.out (fun x y h1 h2 h3 => HI.out.2.up x y h1 h2 h3)
      clear S1
      go_wp2_with (go_at_fn 90; refine hc.mono ?_; rintro e w1 ⟨rfl, d1, hp, hs, S2⟩)
      have S3 : Aside (SWK enc k w0 blk off d1 w1) := S2
      have HB : Hid (Blks lt 20 n d1 ∧ TgB Q 20 n d1) := ⟨HI.out.1.done (by omega) hp hs, HI.out.2.done HI.out.1 (by omega) hp (by rw [HDK.out]; exact Nat.le_refl _)⟩
      have HP1 : Hid (PermIn 0 n d d1) := perm_wide HP.out hp (Nat.le_refl _) (by rw [HDK.out]; exact Nat.le_refl _)
      clear hc S2 hp hs HI HP HDK hltz
      go_loopg [6] n (fun kx s6 wr2 => ∃ (bs : Nat) (dk : Array α), s6 = .int .i64 bs ∧ 20 ≤ bs ∧ bs < 2305843009213693952 ∧ n - bs ≤ kx ∧ Aside (SWK enc k w0 blk off dk wr2) ∧ Hid (Blks lt bs n dk ∧ TgB Q bs n dk) ∧ Hid (PermIn 0 n d dk))
      case atStart => exact ⟨20, d1, rfl, by omega, by omega, by omega, S3, HB, HP1⟩
      case round =>
        clear S3 HB HP1
        obtain ⟨bs, dq, rfl, hbs, hbs2, hkx2, S1, HB, HP⟩ := hrel
        by_cases hlb : bs < n
        · have hlbz : (bs : Int) < (n : Int) := by omega
          go_wp2
          have HM0 : Hid (Mrg lt bs 0 n dq ∧ TgM Q bs 0 n dq) := ⟨Mrg.start HB.out.1, TgM.start HB.out.2⟩
          clear HB
          have S4 : Aside (SWK enc k w0 blk off dq wr) := S1
          clear S1
          go_loopg [7, 8] n (fun kx s7 s8 wr3 => ∃ (B : Nat) (dk : Array α), s7 = .int .i64 B ∧ s8 = .int .i64 ((B : Int) + 2 * (bs : Int)) ∧ B ≤ n ∧ n - B ≤ kx ∧ Aside (SWK enc k w0 blk off dk wr3) ∧ Hid (Mrg lt bs B n dk ∧ TgM Q bs B n dk) ∧ Hid (PermIn 0 n d dk))
          case atStart => exact ⟨0, dq, rfl, by congr 1; omega, by omega, by omega, S4, HM0, HP⟩
          case round =>
            clear S4 HM0 HP
            obtain ⟨B, dj, rfl, rfl, hB, hkx3, S1, HG, HP⟩ := hrel
            have HDJ : Hid (dj.size = n) := HP.out.1.trans HN.out.symm
            by_cases hle : B + 2 * bs ≤ n
            · have hlez : (B : Int) + 2 * (bs : Int) ≤ (n : Int) := by omega
              have hl := HG.out.1.left
              have hr := HG.out.1.right
              rw [Nat.min_eq_left (by omega)] at hl hr
              have hc := MA.out B (B + bs) (B + 2 * bs) (by omega) (by omega) hle dj _ HDJ.out S1.out hl hr (HG.out.2.cr hle)
              have ec1 : ((B + bs : Nat) : Int) = (B : Int) + (bs : Int) := by omega
              have ec2 : ((B + 2 * bs : Nat) : Int) = (B : Int) + 2 * (bs : Int) := by omega
              rw [ec1, ec2] at hc
              clear ec1 ec2 S1 hl hr
              go_wp2_with (go_at_fn 91; refine hc.mono ?_; rintro e w1 ⟨rfl, d2, hp, hs, S2⟩)
              go_roundg (n - (B + 2 * bs))
              case measure => omega
              case rel => exact ⟨B + 2 * bs, d2, by first | rfl | (congr 1; omega), by first | rfl | (congr 1; omega), hle, Nat.le_refl _, S2, ⟨HG.out.1.step hp hs, HG.out.2.step hp hle (by rw [HDJ.out]; exact hle)⟩, perm_wide HP.out hp hle (by rw [HDJ.out]; exact Nat.le_refl _)⟩
            · have hlez : ¬ (B : Int) + 2 * (bs : Int) ≤ (n : Int) := by omega
              by_cases hmn : B + bs < n
              · have hmnz : (B : Int) + (bs : Int) < (n : Int) := by omega
                have hl := HG.out.1.left
                have hr := HG.out.1.right
                rw [Nat.min_eq_left (by omega)] at hl
                rw [Nat.min_eq_right (by omega)] at hr
                have hc := MA.out B (B + bs) n (by omega) (by omega) (Nat.le_refl _) dj _ HDJ.out S1.out hl hr (HG.out.2.cr (Nat.le_refl _))
                have ec1 : ((B + bs : Nat) : Int) = (B : Int) + (bs : Int) := by omega
                rw [ec1] at hc
                clear ec1 S1 hl hr
                go_wp2_with (go_at_fn 91; refine hc.mono ?_; rintro e w1 ⟨rfl, d2, hp, hs, S2⟩)
                go_roundg (n - 2 * bs)
                case measure => omega
                case rel => exact ⟨2 * bs, d2, by first | rfl | (congr 1; omega), by omega, by omega, Nat.le_refl _, S2, ⟨HG.out.1.done (by omega) hp hs, HG.out.2.done (by omega) hp (by rw [HDJ.out]; exact Nat.le_refl _)⟩, perm_wide HP.out hp (Nat.le_refl _) (by rw [HDJ.out]; exact Nat.le_refl _)⟩
              · have hmnz : ¬ (B : Int) + (bs : Int) < (n : Int) := by omega
                have hl := HG.out.1.left
                rw [Nat.min_eq_right (by omega)] at hl
                have HL : Aside _ := hl
                clear hl
                go_wp2
                go_roundg (n - 2 * bs)
                case measure => omega
                case rel => exact ⟨2 * bs, dj, by first | rfl | (congr 1; omega), by omega, by omega, Nat.le_refl _, S1, ⟨HG.out.1.done (by omega) (permIn_refl _ _ _) HL.out, HG.out.2.done (by omega) (permIn_refl _ _ _) (by rw [HDJ.out]; exact Nat.le_refl _)⟩, HP⟩
        · have hlbz : ¬ (bs : Int) < (n : Int) := by omega
          go_wp2
          go_end0
          exact ⟨rfl, _, HP.out, HB.out.1.all (by omega), S1.out⟩
end St
end Go.Proofs.YtemenlcigengeaaGreatDoor
namespace Go.Proofs.YtemenlcigengeaaGreatDoor
namespace St
open Go.Shelf Go.RowKit Go.Lib Go.Sort
variable {P : Program} {α : Type} [Inhabited α]
set_option maxHeartbeats 8000000 in
set_option maxRecDepth 1000000 in
theorem sortStable (k : Nat) (L : Lay P k) (FG : P.funcs[31]? = some Tryz.f31) (F68 : P.funcs[62]? = some Tryz.f62) (e68 : ∀ args w, (callFunc 62 args).run P w = .ok (.enter 62 args) w) (e84 : ∀ args w, (callFunc 90 args).run P w = .ok (.enter 90 args) w) (e85 : ∀ args w, (callFunc 91 args).run P w = .ok (.enter 91 args) w) (enc : α → List Value) {lt : α → α → Bool} {Q : α → α → Prop} (g : Nat) (cb : Array Value) (blk off cap n : Nat) (d : Array α) (w0 w : World)
    (hU : ∀ x y, y < x → x < n → Q d[x]! d[y]!) (S : SWK enc k w0 blk off d w) (hn : n = d.size) (hsz : n < 1152921504606846976)
    (HI : ∀ a b, a ≤ b → b ≤ n → InsC P enc k lt Q g cb blk off cap n w0 a b) (HM : ∀ a m b, a < m → m < b → b ≤ n → Sym P enc k lt Q g cb blk off cap n w0 a m b) :
    Calls P 31 #[.slice (some ⟨blk, off, none⟩) n cap, .func (.func g) #[] cb] w fun e w' => e = .returned (.tuple #[]) ∧ ∃ d', PermIn 0 n d d' ∧ SortedIn lt 0 n d' ∧ SWK enc k w0 blk off d' w' := by
  have mixed := L.mixed; have t0 := L.t0; have a0 := L.a0; have z0 := L.z0; have v0 := L.v0; have t3 := L.t3; have a3 := L.a3; have z3 := L.z3; have v3 := L.v3; have t4 := L.t4; have a4 := L.a4; have z4 := L.z4; have v4 := L.v4; have tS := L.tS; have aS := L.aS; have zS := L.zS; have vS := L.vS; have tF := L.tF; have aF := L.aF; have zF := L.zF; have vF := L.vF
  have hc := stable k L F68 e84 e85 enc g cb blk off cap n d w0 w hU S hn hsz HI HM
  clear S HI HM hn hU
  go_enter FG, Tryz.ntmps31
  go_wp2_with (go_at_fn 62; refine hc.mono ?_; rintro e w1 ⟨rfl, d2, hp, hs, S2⟩)
  go_end0
  exact ⟨rfl, d2, hp, hs, S2⟩
end St
end Go.Proofs.YtemenlcigengeaaGreatDoor
namespace Go.Proofs.YtemenlcigengeaaGreatDoor
namespace St
open Go.Shelf Go.RowKit Go.Lib Go.Sort
theorem lay : Lay Tryz.prog 8 := by
  constructor <;> first | kernel_rfl | (intro w; kernel_rfl) | (intro w; rfl)
end St
end Go.Proofs.YtemenlcigengeaaGreatDoor
namespace Go.Proofs.YtemenlcigengeaaGreatDoor
namespace St
open Go.Shelf Go.RowKit Go.Lib Go.Sort
def ren : Ren := ⟨fun | 20 => 90 | n => n, fun | 22 => 26 | 24 => 57 | 25 => 64 | n => n, fun n => n⟩
theorem lays20 : SlLaysF0.n20 Tryz.prog ren := by
  constructor
  case f20 => exact ⟨Tryz.f90.name, by kernel_rfl, Tryz.func90.trans (congrArg some (by kernel_rfl))⟩
  all_goals first | kernel_rfl | (intro w; kernel_rfl)
variable {α : Type} [Inhabited α]
theorem cmpLays_on {P : Program} {g : Nat} {cb : Array Value} {enc : α → List Value} {k : Nat} {cf : α → α → Int} {blk off : Nat} {w0 W : World} {d0 dk : Array α} (R : RowK enc k w0 blk off d0) (h : SWK enc k w0 blk off dk W) (hs : dk.size = d0.size) (hC : CmpLays P g cb enc k cf blk off d0.size w0) : CmpLays P g cb enc k cf blk off d0.size W := fun m os d1 h1 x y => by
  obtain ⟨m', os', hw⟩ := h.on R.hblk m d1 os (by omega)
  rw [hw]
  exact hC m' os' d1 h1 x y
theorem insC (enc : α → List Value) (cf : α → α → Int) {lt : α → α → Bool} {Q : α → α → Prop} (hQ : ∀ x y, Q x y → lt x y = ltOf cf x y) (hS : SWO lt) (g : Nat) (cb : Array Value) (blk off cap : Nat) (d0 : Array α) (w0 : World)
    (eg : ∀ args w, (callFunc g args).run Tryz.prog w = .ok (.enter g args) w) (hcmp : CmpLays Tryz.prog g cb enc 8 cf blk off d0.size w0)
    (R : RowK enc 8 w0 blk off d0) (hsz : d0.size < 4611686018427387904) (a b : Nat) (hab : a ≤ b) (hb : b ≤ d0.size) : InsC Tryz.prog enc 8 lt Q g cb blk off cap d0.size w0 a b := fun d w hd S hu => by
  have hC := cmpLays_on R S hd hcmp
  have hh := AnyQ.insertionSortCmpFunc (P := Tryz.prog) (ρ := ren) lays20 8 lay.aE lay.zE enc R.hk R.h1 cf g cb blk off cap a b d w eg (by rw [hd]; exact hC) (S.holds R.hblk R.hH hd) (S.lt R.hblk) hab (by omega) (by omega)
  rw [hd] at hh
  refine hh.mono ?_
  rintro e w' ⟨rfl, n, os, rfl⟩
  have h2 := insertionSort_holds (lt := lt) hS d a b hab (by omega)
  rw [ins_eq hQ d a b hab (by omega) hu] at h2
  exact ⟨rfl, _, h2.1, h2.2, S.on R.hblk n _ os h2.1.1⟩
end St
end Go.Proofs.YtemenlcigengeaaGreatDoor
namespace Go.Proofs.YtemenlcigengeaaGreatDoor
namespace St
open Go.Shelf Go.RowKit Go.Lib Go.Sort
variable {α : Type} [Inhabited α]
set_option maxRecDepth 100000 in
theorem sortStable_at (enc : α → List Value) (cf : α → α → Int) {lt : α → α → Bool} {Q : α → α → Prop} (hQ : ∀ x y, Q x y → lt x y = ltOf cf x y) (hS : SWO lt) (g : Nat) (cb : Array Value) (blk off cap : Nat) (d : Array α) (w : World)
    (eg : ∀ args w, (callFunc g args).run Tryz.prog w = .ok (.enter g args) w) (hcmp : CmpLays Tryz.prog g cb enc 8 cf blk off d.size w)
    (R : RowK enc 8 w blk off d) (hU : ∀ x y, y < x → x < d.size → Q d[x]! d[y]!) (hsz : d.size < 1152921504606846976) :
    Calls Tryz.prog 31 #[.slice (some ⟨blk, off, none⟩) d.size cap, .func (.func g) #[] cb] w fun e w' => e = .returned (.tuple #[]) ∧ ∃ d', PermIn 0 d.size d d' ∧ SortedIn lt 0 d.size d' ∧ SWK enc 8 w blk off d' w' :=
  sortStable 8 lay Tryz.func31 Tryz.func62 (fun _ _ => by rfl) (fun _ _ => by rfl) (fun _ _ => by rfl) enc g cb blk off cap d.size d w w hU (SWK.start R.hH) rfl hsz
    (fun a b hab hb => insC enc cf hQ hS g cb blk off cap d w eg hcmp R (by omega) a b hab hb)
    (fun a m b h1 h2 h3 => symMerge 8 lay Tryz.func137 (fun _ _ => by rfl) Tryz.func114 (fun _ _ => by rfl) Tryz.func91 (fun _ _ => by rfl) enc cf hQ hS g cb blk off cap d.size d w eg hcmp R rfl (by omega) (b - a + 1) a m b (Nat.lt_succ_self _) h1 h2 h3)
end St
end Go.Proofs.YtemenlcigengeaaGreatDoor
