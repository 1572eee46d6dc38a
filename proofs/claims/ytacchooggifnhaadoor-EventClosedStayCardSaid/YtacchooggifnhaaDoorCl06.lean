/- Plain: the merge by symmetric comparisons sorts. The stable sort's exchange of two parts, over any program that holds the body. -/
import Derived.Test.YtacchooggifnhaaDoorCl05
import Derived.Test.YtacchooggifnhaaDoorProg
import Derived.Shelf.SlSortCmp.KitK
import Derived.Sort.WalkB2
import Derived.Sort.WalkB12
import Derived.Deep.LoopGhost
namespace Go.Proofs.YtacchooggifnhaaDoor
namespace St
open Go.Sort
variable {α : Type} [Inhabited α] {lt : α → α → Bool}
omit [Inhabited α] in
theorem lt_le (hS : SWO lt) {x y z : α} (h1 : lt x y = true) (h2 : lt z y = false) : lt x z = true := by
  cases h : lt x z with
  | true => rfl
  | false => have := hS.ntrans x z y h h2; rw [h1] at this; cases this
omit [Inhabited α] in
theorem le_lt (hS : SWO lt) {x y z : α} (h1 : lt y x = false) (h2 : lt y z = true) : lt x z = true := by
  cases h : lt x z with
  | true => rfl
  | false => have := hS.ntrans y x z h1 h; rw [h2] at this; cases this
omit [Inhabited α] in
theorem asym (hS : SWO lt) {x y : α} (h : lt x y = true) : lt y x = false := by
  cases h2 : lt y x with
  | false => rfl
  | true => have := hS.trans x y x h h2; rw [hS.irrefl] at this; cases this
theorem sorted_le (hS : SWO lt) {d : Array α} {a b i j : Nat} (h : SortedIn lt a b d) (h1 : a ≤ i) (h2 : i ≤ j) (h3 : j < b) : lt d[j]! d[i]! = false := by
  rcases Nat.eq_or_lt_of_le h2 with e | e
  · subst e; exact hS.irrefl _
  · exact h i j h1 e h3
/-- d[a] moved k places up -/
def shiftUp (d : Array α) (a : Nat) : Nat → Array α
  | 0 => d
  | k + 1 => swp (shiftUp d a k) (a + k) (a + k + 1)
theorem shiftUp_size (d : Array α) (a n : Nat) : (shiftUp d a n).size = d.size := by
  induction n with
  | zero => rfl
  | succ k ih => rw [shiftUp, size_swp, ih]
theorem shiftUp_get (d : Array α) (a : Nat) : ∀ k, a + k < d.size → ∀ x, (shiftUp d a k)[x]! = if a ≤ x ∧ x < a + k then d[x + 1]! else if x = a + k then d[a]! else d[x]!
  | 0, _, x => by
    by_cases h : x = a
    · subst h; rw [if_neg (by omega), if_pos (by omega)]; rfl
    · rw [if_neg (by omega), if_neg (by omega)]; rfl
  | k + 1, hk, x => by
    have ih := shiftUp_get d a k (by omega)
    have hs := shiftUp_size d a k
    rw [shiftUp]
    by_cases h1 : x = a + k
    · subst h1
      rw [swp_left _ _ _ (by omega) (by omega), ih]
      (repeat' split) <;> first | rfl | omega | (congr 1; omega)
    · by_cases h2 : x = a + k + 1
      · subst h2
        rw [swp_right _ _ _ (by omega), ih]
        (repeat' split) <;> first | rfl | omega | (congr 1; omega)
      · rw [swp_other _ _ _ _ h1 h2, ih]
        (repeat' split) <;> first | rfl | omega | (congr 1; omega)
theorem shiftUp_perm (d : Array α) {a b : Nat} (hb : b ≤ d.size) : ∀ k, a + k < b → PermIn a b d (shiftUp d a k)
  | 0, _ => permIn_refl _ _ _
  | k + 1, hk => permIn_trans _ _ _ _ _ (shiftUp_perm d hb k (by omega)) (swp_permIn _ _ _ _ _ (by omega) (by omega) (by omega) (by omega) (by rw [shiftUp_size]; exact hb))
/-- d[m] moved k places down -/
def shiftDn (d : Array α) (m : Nat) : Nat → Array α
  | 0 => d
  | k + 1 => swp (shiftDn d m k) (m - k) (m - k - 1)
theorem shiftDn_size (d : Array α) (m n : Nat) : (shiftDn d m n).size = d.size := by
  induction n with
  | zero => rfl
  | succ k ih => rw [shiftDn, size_swp, ih]
theorem shiftDn_get (d : Array α) (m : Nat) (hm : m < d.size) : ∀ k, k ≤ m → ∀ x, (shiftDn d m k)[x]! = if m - k < x ∧ x ≤ m then d[x - 1]! else if x = m - k then d[m]! else d[x]!
  | 0, _, x => by
    by_cases h : x = m
    · subst h; rw [if_neg (by omega), if_pos (by omega)]; rfl
    · rw [if_neg (by omega), if_neg (by omega)]; rfl
  | k + 1, hk, x => by
    have ih := shiftDn_get d m hm k (by omega)
    have hs := shiftDn_size d m k
    rw [shiftDn]
    by_cases h1 : x = m - k
    · subst h1
      rw [swp_left _ _ _ (by omega) (by omega), ih]
      (repeat' split) <;> first | rfl | omega | (congr 1; omega)
    · by_cases h2 : x = m - k - 1
      · subst h2
        rw [swp_right _ _ _ (by omega), ih]
        (repeat' split) <;> first | rfl | omega | (congr 1; omega)
      · rw [swp_other _ _ _ _ h1 h2, ih]
        (repeat' split) <;> first | rfl | omega | (congr 1; omega)
theorem shiftDn_perm (d : Array α) {a b m : Nat} (hb : b ≤ d.size) (hm : m < b) : ∀ k, a + k ≤ m → PermIn a b d (shiftDn d m k)
  | 0, _ => permIn_refl _ _ _
  | k + 1, hk => permIn_trans _ _ _ _ _ (shiftDn_perm d hb hm k (by omega)) (swp_permIn _ _ _ _ _ (by omega) (by omega) (by omega) (by omega) (by rw [shiftDn_size]; exact hb))
/-- one element ahead of a sorted part -/
theorem merge_one_left (hS : SWO lt) {d : Array α} {a b i : Nat} (hb : b ≤ d.size) (h1 : a + 1 ≤ i) (h2 : i ≤ b) (hs : SortedIn lt (a + 1) b d) (hl : ∀ x, a + 1 ≤ x → x < i → lt d[x]! d[a]! = true) (hr : ∀ x, i ≤ x → x < b → lt d[x]! d[a]! = false) : SortedIn lt a b (shiftUp d a (i - 1 - a)) := by
  intro x y hx hxy hy
  rw [shiftUp_get d a _ (by omega), shiftUp_get d a _ (by omega)]
  by_cases cy : a ≤ y ∧ y < a + (i - 1 - a)
  · rw [if_pos cy, if_pos (by omega)]
    exact hs (x + 1) (y + 1) (by omega) (by omega) (by omega)
  · rw [if_neg cy]
    by_cases cy2 : y = a + (i - 1 - a)
    · rw [if_pos cy2, if_pos (by omega)]
      exact asym hS (hl (x + 1) (by omega) (by omega))
    · rw [if_neg cy2]
      by_cases cx : a ≤ x ∧ x < a + (i - 1 - a)
      · rw [if_pos cx]; exact hs (x + 1) y (by omega) (by omega) hy
      · rw [if_neg cx]
        by_cases cx2 : x = a + (i - 1 - a)
        · rw [if_pos cx2]; exact hr y (by omega) hy
        · rw [if_neg cx2]; exact hs x y (by omega) hxy hy
/-- one element behind a sorted part -/
theorem merge_one_right (hS : SWO lt) {d : Array α} {a m i : Nat} (hb : m + 1 ≤ d.size) (h1 : a ≤ i) (h2 : i ≤ m) (hs : SortedIn lt a m d) (hl : ∀ x, a ≤ x → x < i → lt d[m]! d[x]! = false) (hr : ∀ x, i ≤ x → x < m → lt d[m]! d[x]! = true) : SortedIn lt a (m + 1) (shiftDn d m (m - i)) := by
  intro x y hx hxy hy
  rw [shiftDn_get d m (by omega) _ (by omega), shiftDn_get d m (by omega) _ (by omega)]
  by_cases cy : m - (m - i) < y ∧ y ≤ m
  · rw [if_pos cy]
    by_cases cx : m - (m - i) < x ∧ x ≤ m
    · rw [if_pos cx]; exact hs (x - 1) (y - 1) (by omega) (by omega) (by omega)
    · rw [if_neg cx]
      by_cases cx2 : x = m - (m - i)
      · rw [if_pos cx2]; exact asym hS (hr (y - 1) (by omega) (by omega))
      · rw [if_neg cx2]; exact sorted_le hS hs hx (by omega) (by omega)
  · rw [if_neg cy]
    by_cases cy2 : y = m - (m - i)
    · rw [if_pos cy2]
      have cx : ¬ (m - (m - i) < x ∧ x ≤ m) := by omega
      rw [if_neg cx, if_neg (by omega)]; exact hl x hx (by omega)
    · rw [if_neg cy2]
      have cx : ¬ (m - (m - i) < x ∧ x ≤ m) := by omega
      rw [if_neg cx, if_neg (by omega)]; exact hs x y hx hxy (by omega)
/-- where the symmetric search begins and ends -/
def s0 (a m b : Nat) : Nat := if (a + b) / 2 < m then (a + b) / 2 + m - b else a
def r0 (a m b : Nat) : Nat := if (a + b) / 2 < m then (a + b) / 2 else m
structure Found (lt : α → α → Bool) (d : Array α) (a m b S : Nat) : Prop where
  lo : s0 a m b ≤ S
  hi : S ≤ r0 a m b
  left : ∀ x, s0 a m b ≤ x → x < S → lt d[(a + b) / 2 + m - 1 - x]! d[x]! = false
  right : ∀ x, S ≤ x → x < r0 a m b → lt d[(a + b) / 2 + m - 1 - x]! d[x]! = true
theorem bounds {a m b S : Nat} (_h1 : a < m) (h2 : m < b) (lo : s0 a m b ≤ S) (hi : S ≤ r0 a m b) : a ≤ S ∧ S ≤ m ∧ S ≤ (a + b) / 2 ∧ m ≤ (a + b) / 2 + m - S ∧ (a + b) / 2 ≤ (a + b) / 2 + m - S ∧ (a + b) / 2 + m - S ≤ b := by
  unfold s0 at lo
  unfold r0 at hi
  split at lo <;> split at hi <;> omega
/-- the two halves behind the rotation -/
structure Halves (lt : α → α → Bool) (d1 : Array α) (a mid b S E : Nat) : Prop where
  h1 : SortedIn lt a S d1
  h2 : SortedIn lt S mid d1
  h3 : SortedIn lt mid E d1
  h4 : SortedIn lt E b d1
  across : ∀ x y, a ≤ x → x < mid → mid ≤ y → y < b → lt d1[y]! d1[x]! = false
theorem halves (hS : SWO lt) {d d1 : Array α} {a m b S : Nat} (h1 : a < m) (h2 : m < b) (hF : Found lt d a m b S) (hL : SortedIn lt a m d) (hR : SortedIn lt m b d)
    (hd : ∀ x, d1[x]! = if S ≤ x ∧ x < (a + b) / 2 then d[x + (m - S)]! else if (a + b) / 2 ≤ x ∧ x < (a + b) / 2 + m - S then d[x - ((a + b) / 2 - S)]! else d[x]!) : Halves lt d1 a ((a + b) / 2) b S ((a + b) / 2 + m - S) := by
  obtain ⟨b1, b2, b3, b4, b5, b6⟩ := bounds h1 h2 hF.lo hF.hi
  refine ⟨?_, ?_, ?_, ?_, ?_⟩
  · intro x y hx hxy hy
    rw [hd, hd, if_neg (by omega), if_neg (by omega), if_neg (by omega), if_neg (by omega)]
    exact hL x y hx hxy (by omega)
  · intro x y hx hxy hy
    rw [hd, hd, if_pos (by omega), if_pos (by omega)]
    exact hR _ _ (by omega) (by omega) (by omega)
  · intro x y hx hxy hy
    rw [hd, hd, if_neg (by omega), if_pos (by omega), if_neg (by omega), if_pos (by omega)]
    exact hL _ _ (by omega) (by omega) (by omega)
  · intro x y hx hxy hy
    rw [hd, hd, if_neg (by omega), if_neg (by omega), if_neg (by omega), if_neg (by omega)]
    exact hR x y (by omega) hxy hy
  · intro x y hx hxm hy hyb
    rw [hd, hd, if_neg (by omega)]
    by_cases cx : S ≤ x ∧ x < (a + b) / 2
    · rw [if_pos cx]
      by_cases cy : (a + b) / 2 ≤ y ∧ y < (a + b) / 2 + m - S
      · rw [if_pos cy]
        have hSr : S < r0 a m b := by
          have := hF.hi
          unfold r0 at this ⊢
          split at this <;> rename_i hc
          · rw [if_pos hc]; omega
          · rw [if_neg hc]; omega
        have e1 := hF.right S (Nat.le_refl _) hSr
        have e2 : lt d[y - ((a + b) / 2 - S)]! d[S]! = false := sorted_le hS hL b1 (by omega) (by omega)
        have e3 : lt d[(a + b) / 2 + m - 1 - S]! d[x + (m - S)]! = false := sorted_le hS hR (by omega) (by omega) (by omega)
        exact asym hS (lt_le hS (le_lt hS e3 e1) e2)
      · rw [if_neg cy]
        exact sorted_le hS hR (by omega) (by omega) hyb
    · have cx2 : ¬ ((a + b) / 2 ≤ x ∧ x < (a + b) / 2 + m - S) := by omega
      rw [if_neg cx, if_neg cx2]
      by_cases cy : (a + b) / 2 ≤ y ∧ y < (a + b) / 2 + m - S
      · rw [if_pos cy]
        exact sorted_le hS hL hx (by omega) (by omega)
      · rw [if_neg cy]
        have hSl : s0 a m b < S := by
          have := hF.lo
          unfold s0 at this ⊢
          split at this <;> rename_i hc
          · rw [if_pos hc]; omega
          · rw [if_neg hc]; omega
        have e1 := hF.left (S - 1) (by omega) (by omega)
        have e2 : lt d[S - 1]! d[x]! = false := sorted_le hS hL hx (by omega) (by omega)
        have e3 : lt d[y]! d[(a + b) / 2 + m - 1 - (S - 1)]! = false := sorted_le hS hR (by omega) (by omega) hyb
        exact hS.ntrans _ _ _ e3 (hS.ntrans _ _ _ e1 e2)
/-- two sorted halves, the first not above the second -/
theorem join_halves {d1 d2 d3 : Array α} {a mid b : Nat} (hb : b ≤ d1.size) (_hm : a ≤ mid) (hmb : mid ≤ b) (hac : ∀ x y, a ≤ x → x < mid → mid ≤ y → y < b → lt d1[y]! d1[x]! = false)
    (p2 : PermIn a mid d1 d2) (s2 : SortedIn lt a mid d2) (p3 : PermIn mid b d2 d3) (s3 : SortedIn lt mid b d3) : SortedIn lt a b d3 := by
  have hb2 : b ≤ d2.size := by rw [p2.1]; exact hb
  have k1 : ∀ x, a ≤ x → x < mid → ∀ y, mid ≤ y → y < b → lt d2[y]! d2[x]! = false := fun x hx hxm y hy hyb => by
    have h := permIn_all d1 d2 a mid (fun u => lt d1[y]! u = false) (by omega) p2 (fun i hi hi2 => hac i y hi hi2 hy hyb) x hx hxm
    rw [p2.2.1 y (by omega)]; exact h
  have k2 : ∀ x, a ≤ x → x < mid → ∀ y, mid ≤ y → y < b → lt d3[y]! d3[x]! = false := fun x hx hxm y hy hyb => by
    have h := permIn_all d2 d3 mid b (fun u => lt u d2[x]! = false) hb2 p3 (fun i hi hi2 => k1 x hx hxm i hi hi2) y hy hyb
    rw [p3.2.1 x (by omega)]; exact h
  intro x y hx hxy hy
  rcases Nat.lt_or_ge y mid with h1 | h1
  · rw [p3.2.1 x (by omega), p3.2.1 y (by omega)]; exact s2 x y hx hxy h1
  · rcases Nat.lt_or_ge x mid with h2 | h2
    · exact k2 x hx h2 y h1 hy
    · exact s3 x y h2 hxy hy
end St
end Go.Proofs.YtacchooggifnhaaDoor
namespace Go.Proofs.YtacchooggifnhaaDoor
namespace St
open Go.Shelf Go.RowKit Go.Lib Go.Sort
/-- What the bodies of the stable sort ask of a program. -/
structure Lay (P : Program) (k : Nat) : Prop where
  mixed : P.follows .mixedOrders = true
  t0 : P.underlying 0 = some (TypeDesc.tuple #[])
  a0 : ∀ w, (isAgg 0).run P w = .ok false w
  z0 : ∀ w, (Go.sizeOf 0).run P w = .ok 1 w
  v0 : ∀ w, (zeroValue 0).run P w = .ok (Value.tuple #[]) w
  t3 : P.underlying 3 = some (TypeDesc.int IntKind.i64)
  a3 : ∀ w, (isAgg 3).run P w = .ok false w
  z3 : ∀ w, (Go.sizeOf 3).run P w = .ok 1 w
  v3 : ∀ w, (zeroValue 3).run P w = .ok (Value.int IntKind.i64 0) w
  t4 : P.underlying 4 = some (TypeDesc.bool)
  a4 : ∀ w, (isAgg 4).run P w = .ok false w
  z4 : ∀ w, (Go.sizeOf 4).run P w = .ok 1 w
  v4 : ∀ w, (zeroValue 4).run P w = .ok (Value.bool false) w
  tU : P.underlying 81 = some (TypeDesc.int IntKind.u64)
  aU : ∀ w, (isAgg 81).run P w = .ok false w
  zU : ∀ w, (Go.sizeOf 81).run P w = .ok 1 w
  vU : ∀ w, (zeroValue 81).run P w = .ok (Value.int IntKind.u64 0) w
  tS : P.underlying 22 = some (TypeDesc.slice 43)
  aS : ∀ w, (isAgg 22).run P w = .ok false w
  zS : ∀ w, (Go.sizeOf 22).run P w = .ok 1 w
  vS : ∀ w, (zeroValue 22).run P w = .ok (Value.slice none 0 0) w
  tF : P.underlying 62 = some (TypeDesc.func #[43, 43] #[3] false)
  aF : ∀ w, (isAgg 62).run P w = .ok false w
  zF : ∀ w, (Go.sizeOf 62).run P w = .ok 1 w
  vF : ∀ w, (zeroValue 62).run P w = .ok (Value.nilFunc) w
  aE : ∀ w, (isAgg 43).run P w = .ok true w
  zE : ∀ w, (Go.sizeOf 43).run P w = .ok k w
variable {P : Program} {α : Type} [Inhabited α]
set_option maxHeartbeats 4000000 in
set_option maxRecDepth 1000000 in
theorem swapRange (k : Nat) (L : Lay P k) (FG : P.funcs[92]? = some Tryd.f92) (enc : α → List Value) (g : Nat) (cb : Array Value) (blk off cap a b n : Nat) (d0 d : Array α) (w0 w : World)
    (R : RowK enc k w0 blk off d0) (hs : d0.size = d.size) (S : SWK enc k w0 blk off d w) (hab : a + n ≤ d.size) (hb : b + n ≤ d.size) (hsz : d.size < 4611686018427387904) :
    Calls P 92 #[.slice (some ⟨blk, off, none⟩) d.size cap, .int .i64 a, .int .i64 b, .int .i64 n, .func (.func g) #[] cb] w fun e w' => e = .returned (.tuple #[]) ∧ SWK enc k w0 blk off (rangeSwap d a b n) w' := by
  have mixed := L.mixed; have t0 := L.t0; have a0 := L.a0; have z0 := L.z0; have v0 := L.v0; have t3 := L.t3; have a3 := L.a3; have z3 := L.z3; have v3 := L.v3; have t4 := L.t4; have a4 := L.a4; have z4 := L.z4; have v4 := L.v4; have tS := L.tS; have aS := L.aS; have zS := L.zS; have vS := L.vS; have tF := L.tF; have aF := L.aF; have zF := L.zF; have vF := L.vF; have aE := L.aE; have zE := L.zE
  have S0 : Aside (SWK enc k w0 blk off d w) := S
  clear S
  go_enter FG, Tryd.ntmps92
  go_wp2
  go_loopg [10] n (fun kx s10 wr => ∃ (i : Nat), s10 = .int .i64 i ∧ i ≤ n ∧ n - i ≤ kx ∧ Aside (SWK enc k w0 blk off (rangeSwap d a b i) wr))
  case atStart => exact ⟨0, rfl, by omega, by omega, S0⟩
  case round =>
    clear S0
    obtain ⟨i, rfl, hin, hkx, S1⟩ := hrel
    obtain ⟨dk, hdk⟩ : ∃ dk, dk = rangeSwap d a b i := ⟨_, rfl⟩
    have hds : dk.size = d.size := by rw [hdk, rangeSwap_size]
    rw [← hdk] at S1
    have HDK : Hid (dk = rangeSwap d a b i) := hdk
    clear hdk
    by_cases hlt : i < n
    · have hltz : (i : Int) < (n : Int) := by omega
      go_wp2_with fail
      have ea44 : ((a : Int) + i).toNat = a + i := by omega
      have pa44 : (0 : Int) ≤ (a : Int) + i := by omega
      have ba44 : (a : Int) + i < (d.size : Int) := by omega
      have ra44 : IntKind.i64.wrap ((a : Int) + i) = (a : Int) + i := by rw [IntKind.wrap_i64]; omega
      have ec44 : ((b : Int) + i).toNat = b + i := by omega
      have pc44 : (0 : Int) ≤ (b : Int) + i := by omega
      have bc44 : (b : Int) + i < (d.size : Int) := by omega
      have rc44 : IntKind.i64.wrap ((b : Int) + i) = (b : Int) + i := by rw [IntKind.wrap_i64]; omega
      have S2 : Aside (SWK enc k w0 blk off (swp dk (a + i) (b + i)) ((wr.drew.setCells blk (off + (a + i) * k) (enc dk[b + i]!)).setCells blk (off + (b + i) * k) (enc dk[a + i]!))) := S1.out.swapped R (a + i) (b + i) (by omega) (by omega)
      have l44a := S1.out.ld1 R (by omega) P (a + i) (by omega)
      have l44b := S1.out.ld1 R (by omega) P (b + i) (by omega)
      have s44a := S1.out.st1 R (by omega) P (a + i) (by omega) dk[b + i]!
      have s44b := S1.out.st2 R (by omega) P (a + i) (b + i) (by omega) (by omega) dk[b + i]! dk[a + i]!
      have n44a : (enc dk[a + i]!).length = k := R.hk _
      have n44b : (enc dk[b + i]!).length = k := R.hk _
      generalize enc dk[a + i]! = cI44 at S2 l44a s44b n44a
      generalize enc dk[b + i]! = cJ44 at S2 l44b s44a s44b n44b
      clear S1
      go_wp2_with fail
      go_big_region_o
      clear l44a l44b s44a s44b
      generalize (wr.drew.setCells blk (off + (a + i) * k) cJ44).setCells blk (off + (b + i) * k) cI44 = w2 at S2 ⊢
      go_wp2
      go_roundg (n - (i + 1))
      case measure => omega
      case rel => exact ⟨i + 1, by go_num, by omega, Nat.le_refl _, by rw [rangeSwap, ← HDK.out]; exact S2⟩
    · have hltz : ¬ (i : Int) < (n : Int) := by omega
      go_wp2
      go_end0
      have : i = n := by omega
      subst this
      refine ⟨rfl, ?_⟩
      rw [← HDK.out]
      exact S1.out
end St
end Go.Proofs.YtacchooggifnhaaDoor
