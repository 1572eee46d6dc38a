/- The stable sort's merge: the whole of it. Plain: sorted blocks, merged two by two. The stable sort: blocks sorted by insertion, merged two by two. SortStableFunc, over any program that holds the bodies. The seat's program holds what the stable sort asks for. The sort by insertion at the seat's program; the stable sort there. SortStableFunc at the seat's program: sorted, and a permutation. The join of logs, plainly: the list in order that has the events of both, each once; and what a sorted list that was compacted is. -/
import Derived.Test.YtacchooggifnhaaDoorCl11
import Derived.Test.YtacchooggifnhaaDoorCl06
import Derived.Test.YtacchooggifnhaaDoorCl03
import Derived.Lib.SlicesCompact
namespace Go.Proofs.YtacchooggifnhaaDoor
namespace St
open Go.Shelf Go.RowKit Go.Lib Go.Sort
variable {P : Program} {α : Type} [Inhabited α]
theorem symMerge (k : Nat) (L : Lay P k) (F94 : P.funcs[92]? = some Tryd.f92) (e94 : ∀ args w, (callFunc 92 args).run P w = .ok (.enter 92 args) w) (F92 : P.funcs[87]? = some Tryd.f87) (e92 : ∀ args w, (callFunc 87 args).run P w = .ok (.enter 87 args) w) (FG : P.funcs[80]? = some Tryd.f80) (e85 : ∀ args w, (callFunc 80 args).run P w = .ok (.enter 80 args) w) (enc : α → List Value) (cf : α → α → Int) (hS : SWO (ltOf cf)) (g : Nat) (cb : Array Value) (blk off cap size : Nat) (d0 : Array α) (w0 : World)
    (eg : ∀ args w, (callFunc g args).run P w = .ok (.enter g args) w) (hcmp : CmpLays P g cb enc k cf blk off size w0)
    (R : RowK enc k w0 blk off d0) (hs : d0.size = size) (hsz : size < 4611686018427387904) : ∀ n a m b, b - a < n → a < m → m < b → b ≤ size → Sym P enc k cf g cb blk off cap size w0 a m b
  | 0, _, _, _, h, _, _, _ => absurd h (Nat.not_lt_zero _)
  | n + 1, a, m, b, hn, ham, hmb, hb => by
    have IH := symMerge k L F94 e94 F92 e92 FG e85 enc cf hS g cb blk off cap size d0 w0 eg hcmp R hs hsz n
    intro d w hd S hL hR
    subst hd
    by_cases h1 : m = a + 1
    · subst h1
      have := symL k L FG enc cf hS g cb blk off cap a b d0 d w0 w eg hcmp R hs S hmb hb hsz hR
      exact this
    · by_cases h2 : b = m + 1
      · subst h2
        have := symR k L FG enc cf hS g cb blk off cap a m d0 d w0 w eg hcmp R hs S (by omega) hb hsz hL
        exact this
      · by_cases hm : (a + b) / 2 < m
        · exact symHi k L F94 e94 F92 e92 FG e85 enc cf hS g cb blk off cap a m b d0 d w0 w eg hcmp R hs S (by omega) (by omega) hb hsz hL hR hm (fun a' m' b' h ha hm hb' => IH a' m' b' (by omega) ha hm hb')
        · exact symLo k L F94 e94 F92 e92 FG e85 enc cf hS g cb blk off cap a m b d0 d w0 w eg hcmp R hs S (by omega) (by omega) hb hsz hL hR hm (fun a' m' b' h ha hm hb' => IH a' m' b' (by omega) ha hm hb')
end St
end Go.Proofs.YtacchooggifnhaaDoor
namespace Go.Proofs.YtacchooggifnhaaDoor
namespace St
open Go.Sort
variable {α : Type} [Inhabited α] {lt : α → α → Bool}
omit [Inhabited α] in
theorem sorted_none [Inhabited α] {d : Array α} {a b : Nat} (h : b ≤ a + 1) : SortedIn lt a b d := fun x y h1 h2 h3 => by omega
theorem sorted_sub {d : Array α} {a b a' b' : Nat} (h : SortedIn lt a b d) (h1 : a ≤ a') (h2 : b' ≤ b) : SortedIn lt a' b' d := fun x y hx hxy hy => h x y (by omega) hxy (by omega)
theorem sorted_keep {d d' : Array α} {a b x y : Nat} (hp : PermIn a b d d') (h : y ≤ a ∨ b ≤ x) (hs : SortedIn lt x y d) : SortedIn lt x y d' := fun i j h1 h2 h3 => by
  rw [hp.2.1 i (by omega), hp.2.1 j (by omega)]; exact hs i j h1 h2 h3
/-- every block of bs places is sorted -/
def Blks (lt : α → α → Bool) (bs n : Nat) (d : Array α) : Prop := ∀ j, SortedIn lt (j * bs) (min ((j + 1) * bs) n) d
/-- q blocks of bs places are sorted, what ends at A -/
structure Ins (lt : α → α → Bool) (bs A : Nat) (d : Array α) : Prop where
  blk : ∃ q, A = q * bs ∧ ∀ j, j < q → SortedIn lt (j * bs) ((j + 1) * bs) d
theorem Ins.start (bs : Nat) (d : Array α) : Ins lt bs 0 d := ⟨0, by simp, fun j h => absurd h (Nat.not_lt_zero _)⟩
theorem Ins.step {bs A : Nat} {d d' : Array α} (h : Ins lt bs A d) (hp : PermIn A (A + bs) d d') (hs : SortedIn lt A (A + bs) d') : Ins lt bs (A + bs) d' := by
  obtain ⟨q, rfl, hq⟩ := h.blk
  refine ⟨q + 1, by rw [Nat.succ_mul], fun j hj => ?_⟩
  rcases Nat.lt_or_ge j q with h1 | h1
  · exact sorted_keep hp (Or.inl (Nat.mul_le_mul_right bs h1)) (hq j h1)
  · have : j = q := by omega
    subst this
    rw [Nat.succ_mul]; exact hs
theorem Ins.done {bs A n : Nat} {d d' : Array α} (h : Ins lt bs A d) (hn : n < A + bs) (hp : PermIn A n d d') (hs : SortedIn lt A n d') : Blks lt bs n d' := by
  obtain ⟨q, rfl, hq⟩ := h.blk
  intro j
  rcases Nat.lt_trichotomy j q with h1 | h1 | h1
  · exact sorted_sub (sorted_keep hp (Or.inl (Nat.mul_le_mul_right bs h1)) (hq j h1)) (Nat.le_refl _) (Nat.min_le_left _ _)
  · subst h1; exact sorted_sub hs (Nat.le_refl _) (Nat.min_le_right _ _)
  · have h2 : (q + 1) * bs ≤ j * bs := Nat.mul_le_mul_right bs h1
    rw [Nat.succ_mul] at h2
    exact sorted_none (Nat.le_trans (Nat.min_le_right _ _) (by omega))
/-- while blocks are merged two by two: A is reached -/
structure Mrg (lt : α → α → Bool) (bs A n : Nat) (d : Array α) : Prop where
  blk : ∃ q, A = q * (2 * bs) ∧ (∀ j, j < q → SortedIn lt (j * (2 * bs)) ((j + 1) * (2 * bs)) d) ∧ ∀ j, 2 * q ≤ j → SortedIn lt (j * bs) (min ((j + 1) * bs) n) d
theorem Mrg.start {bs n : Nat} {d : Array α} (h : Blks lt bs n d) : Mrg lt bs 0 n d := ⟨0, by simp, fun j h => absurd h (Nat.not_lt_zero _), fun j _ => h j⟩
theorem two_mul_mul (q bs : Nat) : 2 * q * bs = q * (2 * bs) := by rw [Nat.mul_comm 2 q, Nat.mul_assoc]
theorem Mrg.left {bs A n : Nat} {d : Array α} (h : Mrg lt bs A n d) : SortedIn lt A (min (A + bs) n) d := by
  obtain ⟨q, rfl, _, h2⟩ := h.blk
  have := h2 (2 * q) (Nat.le_refl _)
  rw [Nat.succ_mul (2 * q), two_mul_mul] at this
  exact this
theorem Mrg.right {bs A n : Nat} {d : Array α} (h : Mrg lt bs A n d) : SortedIn lt (A + bs) (min (A + 2 * bs) n) d := by
  obtain ⟨q, rfl, _, h2⟩ := h.blk
  have := h2 (2 * q + 1) (Nat.le_succ _)
  rw [Nat.succ_mul (2 * q + 1), Nat.succ_mul (2 * q), two_mul_mul] at this
  have e : q * (2 * bs) + bs + bs = q * (2 * bs) + 2 * bs := by omega
  rw [e] at this
  exact this
theorem Mrg.step {bs A n : Nat} {d d' : Array α} (h : Mrg lt bs A n d) (hp : PermIn A (A + 2 * bs) d d') (hs : SortedIn lt A (A + 2 * bs) d') : Mrg lt bs (A + 2 * bs) n d' := by
  obtain ⟨q, rfl, hq, h2⟩ := h.blk
  refine ⟨q + 1, by rw [Nat.succ_mul q], fun j hj => ?_, fun j hj => ?_⟩
  · rcases Nat.lt_or_ge j q with h1 | h1
    · exact sorted_keep hp (Or.inl (Nat.mul_le_mul_right _ h1)) (hq j h1)
    · have : j = q := by omega
      subst this
      rw [Nat.succ_mul j]; exact hs
  · refine sorted_keep hp (Or.inr ?_) (h2 j (by omega))
    have h3 : 2 * (q + 1) * bs ≤ j * bs := Nat.mul_le_mul_right bs hj
    rw [two_mul_mul, Nat.succ_mul q] at h3
    exact h3
theorem Mrg.done {bs A n : Nat} {d d' : Array α} (h : Mrg lt bs A n d) (hn : n < A + 2 * bs) (hp : PermIn A n d d') (hs : SortedIn lt A n d') : Blks lt (2 * bs) n d' := by
  obtain ⟨q, rfl, hq, h2⟩ := h.blk
  exact Ins.done ⟨q, rfl, hq⟩ hn hp hs
theorem Blks.all {bs n : Nat} {d : Array α} (h : Blks lt bs n d) (hn : n ≤ bs) : SortedIn lt 0 n d := by
  have := h 0
  rw [Nat.zero_mul, Nat.zero_add, Nat.one_mul, Nat.min_eq_right hn] at this
  exact this
end St
end Go.Proofs.YtacchooggifnhaaDoor
namespace Go.Proofs.YtacchooggifnhaaDoor
namespace St
open Go.Shelf Go.RowKit Go.Lib Go.Sort
variable {P : Program} {α : Type} [Inhabited α]
/-- What the sort by insertion does on [a, b). -/
def InsC (P : Program) (enc : α → List Value) (k : Nat) (cf : α → α → Int) (g : Nat) (cb : Array Value) (blk off cap size : Nat) (w0 : World) (a b : Nat) : Prop := ∀ (d : Array α) (w : World), d.size = size → SWK enc k w0 blk off d w →
  Calls P 79 #[.slice (some ⟨blk, off, none⟩) size cap, .int .i64 a, .int .i64 b, .func (.func g) #[] cb] w fun e w' => e = .returned (.tuple #[]) ∧ ∃ d', PermIn a b d d' ∧ SortedIn (ltOf cf) a b d' ∧ SWK enc k w0 blk off d' w'
theorem perm_wide {a b n : Nat} {d d1 d2 : Array α} (h : PermIn 0 n d d1) (h2 : PermIn a b d1 d2) (hb : b ≤ n) (hn : n ≤ d1.size) : PermIn 0 n d d2 := permIn_trans _ _ _ _ _ h (permIn_mono _ _ _ _ _ _ (Nat.zero_le _) hb hn h2)
set_option maxHeartbeats 8000000 in
set_option maxRecDepth 1000000 in
theorem stable (k : Nat) (L : Lay P k) (FG : P.funcs[68]? = some Tryd.f68) (e84 : ∀ args w, (callFunc 79 args).run P w = .ok (.enter 79 args) w) (e85 : ∀ args w, (callFunc 80 args).run P w = .ok (.enter 80 args) w) (enc : α → List Value) (cf : α → α → Int) (g : Nat) (cb : Array Value) (blk off cap n : Nat) (d : Array α) (w0 w : World)
    (S : SWK enc k w0 blk off d w) (hn : n = d.size) (hsz : n < 1152921504606846976)
    (HI : ∀ a b, a ≤ b → b ≤ n → InsC P enc k cf g cb blk off cap n w0 a b) (HM : ∀ a m b, a < m → m < b → b ≤ n → Sym P enc k cf g cb blk off cap n w0 a m b) :
    Calls P 68 #[.slice (some ⟨blk, off, none⟩) n cap, .int .i64 n, .func (.func g) #[] cb] w fun e w' => e = .returned (.tuple #[]) ∧ ∃ d', PermIn 0 n d d' ∧ SortedIn (ltOf cf) 0 n d' ∧ SWK enc k w0 blk off d' w' := by
  have mixed := L.mixed; have t0 := L.t0; have a0 := L.a0; have z0 := L.z0; have v0 := L.v0; have t3 := L.t3; have a3 := L.a3; have z3 := L.z3; have v3 := L.v3; have t4 := L.t4; have a4 := L.a4; have z4 := L.z4; have v4 := L.v4; have tS := L.tS; have aS := L.aS; have zS := L.zS; have vS := L.vS; have tF := L.tF; have aF := L.aF; have zF := L.zF; have vF := L.vF
  have S0 : Aside (SWK enc k w0 blk off d w) := S
  have IA : Aside _ := HI
  have MA : Aside _ := HM
  have HN : Hid (n = d.size) := hn
  clear S HI HM hn
  go_enter FG, Tryd.ntmps68
  go_wp2
  go_loopg [7, 8] n (fun kx s7 s8 wr => ∃ (A : Nat) (dk : Array α), s7 = .int .i64 A ∧ s8 = .int .i64 ((A : Int) + 20) ∧ A ≤ n ∧ n - A ≤ kx ∧ Aside (SWK enc k w0 blk off dk wr) ∧ Hid (Ins (ltOf cf) 20 A dk) ∧ Hid (PermIn 0 n d dk))
  case atStart => exact ⟨0, d, rfl, rfl, by omega, by omega, S0, Ins.start _ _, permIn_refl _ _ _⟩
  case round =>
    clear S0
    obtain ⟨A, dk, rfl, rfl, hA, hkx, S1, HI, HP⟩ := hrel
    have hdk : dk.size = n := HP.out.1.trans HN.out.symm
    have HDK : Hid (dk.size = n) := hdk
    clear hdk
    by_cases hlt : A + 20 ≤ n
    · have hltz : (A : Int) + 20 ≤ (n : Int) := by omega
      have hc := IA.out A (A + 20) (by omega) hlt dk _ HDK.out S1.out
      have ec : ((A + 20 : Nat) : Int) = (A : Int) + 20 := by omega
      rw [ec] at hc
      clear ec S1
      go_wp2_with (go_at_fn 79; refine hc.mono ?_; rintro e w1 ⟨rfl, d1, hp, hs, S2⟩)
      go_roundg (n - (A + 20))
      case measure => omega
      case rel => exact ⟨A + 20, d1, by first | rfl | (congr 1; omega), by first | rfl | (congr 1; omega), hlt, Nat.le_refl _, S2, HI.out.step hp hs, perm_wide HP.out hp hlt (by rw [HDK.out]; exact Nat.le_refl _)⟩
    · have hltz : ¬ (A : Int) + 20 ≤ (n : Int) := by omega
      have hc := IA.out A n hA (Nat.le_refl _) dk _ HDK.out S1.out
      clear S1
      go_wp2_with (go_at_fn 79; refine hc.mono ?_; rintro e w1 ⟨rfl, d1, hp, hs, S2⟩)
      have S3 : Aside (SWK enc k w0 blk off d1 w1) := S2
      have HB : Hid (Blks (ltOf cf) 20 n d1) := HI.out.done (by omega) hp hs
      have HP1 : Hid (PermIn 0 n d d1) := perm_wide HP.out hp (Nat.le_refl _) (by rw [HDK.out]; exact Nat.le_refl _)
      clear hc S2 hp hs HI HP HDK hltz
      go_loopg [6] n (fun kx s6 wr2 => ∃ (bs : Nat) (dk : Array α), s6 = .int .i64 bs ∧ 20 ≤ bs ∧ bs < 2305843009213693952 ∧ n - bs ≤ kx ∧ Aside (SWK enc k w0 blk off dk wr2) ∧ Hid (Blks (ltOf cf) bs n dk) ∧ Hid (PermIn 0 n d dk))
      case atStart => exact ⟨20, d1, rfl, by omega, by omega, by omega, S3, HB, HP1⟩
      case round =>
        clear S3 HB HP1
        obtain ⟨bs, dq, rfl, hbs, hbs2, hkx2, S1, HB, HP⟩ := hrel
        by_cases hlb : bs < n
        · have hlbz : (bs : Int) < (n : Int) := by omega
          go_wp2
          have HM0 : Hid (Mrg (ltOf cf) bs 0 n dq) := Mrg.start HB.out
          clear HB
          have S4 : Aside (SWK enc k w0 blk off dq wr) := S1
          clear S1
          go_loopg [7, 8] n (fun kx s7 s8 wr3 => ∃ (B : Nat) (dk : Array α), s7 = .int .i64 B ∧ s8 = .int .i64 ((B : Int) + 2 * (bs : Int)) ∧ B ≤ n ∧ n - B ≤ kx ∧ Aside (SWK enc k w0 blk off dk wr3) ∧ Hid (Mrg (ltOf cf) bs B n dk) ∧ Hid (PermIn 0 n d dk))
          case atStart => exact ⟨0, dq, rfl, by congr 1; omega, by omega, by omega, S4, HM0, HP⟩
          case round =>
            clear S4 HM0 HP
            obtain ⟨B, dj, rfl, rfl, hB, hkx3, S1, HG, HP⟩ := hrel
            have HDJ : Hid (dj.size = n) := HP.out.1.trans HN.out.symm
            by_cases hle : B + 2 * bs ≤ n
            · have hlez : (B : Int) + 2 * (bs : Int) ≤ (n : Int) := by omega
              have hl := HG.out.left
              have hr := HG.out.right
              rw [Nat.min_eq_left (by omega)] at hl hr
              have hc := MA.out B (B + bs) (B + 2 * bs) (by omega) (by omega) hle dj _ HDJ.out S1.out hl hr
              have ec1 : ((B + bs : Nat) : Int) = (B : Int) + (bs : Int) := by omega
              have ec2 : ((B + 2 * bs : Nat) : Int) = (B : Int) + 2 * (bs : Int) := by omega
              rw [ec1, ec2] at hc
              clear ec1 ec2 S1 hl hr
              go_wp2_with (go_at_fn 80; refine hc.mono ?_; rintro e w1 ⟨rfl, d2, hp, hs, S2⟩)
              go_roundg (n - (B + 2 * bs))
              case measure => omega
              case rel => exact ⟨B + 2 * bs, d2, by first | rfl | (congr 1; omega), by first | rfl | (congr 1; omega), hle, Nat.le_refl _, S2, HG.out.step hp hs, perm_wide HP.out hp hle (by rw [HDJ.out]; exact Nat.le_refl _)⟩
            · have hlez : ¬ (B : Int) + 2 * (bs : Int) ≤ (n : Int) := by omega
              by_cases hmn : B + bs < n
              · have hmnz : (B : Int) + (bs : Int) < (n : Int) := by omega
                have hl := HG.out.left
                have hr := HG.out.right
                rw [Nat.min_eq_left (by omega)] at hl
                rw [Nat.min_eq_right (by omega)] at hr
                have hc := MA.out B (B + bs) n (by omega) (by omega) (Nat.le_refl _) dj _ HDJ.out S1.out hl hr
                have ec1 : ((B + bs : Nat) : Int) = (B : Int) + (bs : Int) := by omega
                rw [ec1] at hc
                clear ec1 S1 hl hr
                go_wp2_with (go_at_fn 80; refine hc.mono ?_; rintro e w1 ⟨rfl, d2, hp, hs, S2⟩)
                go_roundg (n - 2 * bs)
                case measure => omega
                case rel => exact ⟨2 * bs, d2, by first | rfl | (congr 1; omega), by omega, by omega, Nat.le_refl _, S2, HG.out.done (by omega) hp hs, perm_wide HP.out hp (Nat.le_refl _) (by rw [HDJ.out]; exact Nat.le_refl _)⟩
              · have hmnz : ¬ (B : Int) + (bs : Int) < (n : Int) := by omega
                have hl := HG.out.left
                rw [Nat.min_eq_right (by omega)] at hl
                have HL : Aside _ := hl
                clear hl
                go_wp2
                go_roundg (n - 2 * bs)
                case measure => omega
                case rel => exact ⟨2 * bs, dj, by first | rfl | (congr 1; omega), by omega, by omega, Nat.le_refl _, S1, HG.out.done (by omega) (permIn_refl _ _ _) HL.out, HP⟩
        · have hlbz : ¬ (bs : Int) < (n : Int) := by omega
          go_wp2
          go_end0
          exact ⟨rfl, _, HP.out, HB.out.all (by omega), S1.out⟩
end St
end Go.Proofs.YtacchooggifnhaaDoor
namespace Go.Proofs.YtacchooggifnhaaDoor
namespace St
open Go.Shelf Go.RowKit Go.Lib Go.Sort
variable {P : Program} {α : Type} [Inhabited α]
set_option maxHeartbeats 8000000 in
set_option maxRecDepth 1000000 in
theorem sortStable (k : Nat) (L : Lay P k) (FG : P.funcs[43]? = some Tryd.f43) (F68 : P.funcs[68]? = some Tryd.f68) (e68 : ∀ args w, (callFunc 68 args).run P w = .ok (.enter 68 args) w) (e84 : ∀ args w, (callFunc 79 args).run P w = .ok (.enter 79 args) w) (e85 : ∀ args w, (callFunc 80 args).run P w = .ok (.enter 80 args) w) (enc : α → List Value) (cf : α → α → Int) (g : Nat) (cb : Array Value) (blk off cap n : Nat) (d : Array α) (w0 w : World)
    (S : SWK enc k w0 blk off d w) (hn : n = d.size) (hsz : n < 1152921504606846976)
    (HI : ∀ a b, a ≤ b → b ≤ n → InsC P enc k cf g cb blk off cap n w0 a b) (HM : ∀ a m b, a < m → m < b → b ≤ n → Sym P enc k cf g cb blk off cap n w0 a m b) :
    Calls P 43 #[.slice (some ⟨blk, off, none⟩) n cap, .func (.func g) #[] cb] w fun e w' => e = .returned (.tuple #[]) ∧ ∃ d', PermIn 0 n d d' ∧ SortedIn (ltOf cf) 0 n d' ∧ SWK enc k w0 blk off d' w' := by
  have mixed := L.mixed; have t0 := L.t0; have a0 := L.a0; have z0 := L.z0; have v0 := L.v0; have t3 := L.t3; have a3 := L.a3; have z3 := L.z3; have v3 := L.v3; have t4 := L.t4; have a4 := L.a4; have z4 := L.z4; have v4 := L.v4; have tS := L.tS; have aS := L.aS; have zS := L.zS; have vS := L.vS; have tF := L.tF; have aF := L.aF; have zF := L.zF; have vF := L.vF
  have hc := stable k L F68 e84 e85 enc cf g cb blk off cap n d w0 w S hn hsz HI HM
  clear S HI HM hn
  go_enter FG, Tryd.ntmps43
  go_wp2_with (go_at_fn 68; refine hc.mono ?_; rintro e w1 ⟨rfl, d2, hp, hs, S2⟩)
  go_end0
  exact ⟨rfl, d2, hp, hs, S2⟩
end St
end Go.Proofs.YtacchooggifnhaaDoor
namespace Go.Proofs.YtacchooggifnhaaDoor
namespace St
open Go.Shelf Go.RowKit Go.Lib Go.Sort
theorem lay : Lay Tryd.prog 8 := by
  constructor <;> first | kernel_rfl | (intro w; kernel_rfl) | (intro w; rfl)
end St
end Go.Proofs.YtacchooggifnhaaDoor
namespace Go.Proofs.YtacchooggifnhaaDoor
namespace St
open Go.Shelf Go.RowKit Go.Lib Go.Sort
def ren : Ren := ⟨fun | 20 => 79 | n => n, fun | 22 => 22 | 24 => 43 | 25 => 62 | n => n, fun n => n⟩
theorem lays20 : SlLaysF0.n20 Tryd.prog ren := by
  constructor
  case f20 => exact ⟨Tryd.f79.name, by kernel_rfl, Tryd.func79.trans (congrArg some (by kernel_rfl))⟩
  all_goals first | kernel_rfl | (intro w; kernel_rfl)
variable {α : Type} [Inhabited α]
theorem cmpLays_on {P : Program} {g : Nat} {cb : Array Value} {enc : α → List Value} {k : Nat} {cf : α → α → Int} {blk off : Nat} {w0 W : World} {d0 dk : Array α} (R : RowK enc k w0 blk off d0) (h : SWK enc k w0 blk off dk W) (hs : dk.size = d0.size) (hC : CmpLays P g cb enc k cf blk off d0.size w0) : CmpLays P g cb enc k cf blk off d0.size W := fun m os d1 h1 x y => by
  obtain ⟨m', os', hw⟩ := h.on R.hblk m d1 os (by omega)
  rw [hw]
  exact hC m' os' d1 h1 x y
theorem insC (enc : α → List Value) (cf : α → α → Int) (hS : SWO (ltOf cf)) (g : Nat) (cb : Array Value) (blk off cap : Nat) (d0 : Array α) (w0 : World)
    (eg : ∀ args w, (callFunc g args).run Tryd.prog w = .ok (.enter g args) w) (hcmp : CmpLays Tryd.prog g cb enc 8 cf blk off d0.size w0)
    (R : RowK enc 8 w0 blk off d0) (hsz : d0.size < 4611686018427387904) (a b : Nat) (hab : a ≤ b) (hb : b ≤ d0.size) : InsC Tryd.prog enc 8 cf g cb blk off cap d0.size w0 a b := fun d w hd S => by
  have hC := cmpLays_on R S hd hcmp
  have hh := AnyQ.insertionSortCmpFunc (P := Tryd.prog) (ρ := ren) lays20 8 lay.aE lay.zE enc R.hk R.h1 cf g cb blk off cap a b d w eg (by rw [hd]; exact hC) (S.holds R.hblk R.hH hd) (S.lt R.hblk) hab (by omega) (by omega)
  rw [hd] at hh
  refine hh.mono ?_
  rintro e w' ⟨rfl, n, os, rfl⟩
  have h2 := insertionSort_holds (lt := ltOf cf) hS d a b hab (by omega)
  exact ⟨rfl, _, h2.1, h2.2, S.on R.hblk n _ os h2.1.1⟩
end St
end Go.Proofs.YtacchooggifnhaaDoor
namespace Go.Proofs.YtacchooggifnhaaDoor
namespace St
open Go.Shelf Go.RowKit Go.Lib Go.Sort
variable {α : Type} [Inhabited α]
set_option maxRecDepth 100000 in
theorem sortStable_at (enc : α → List Value) (cf : α → α → Int) (hS : SWO (ltOf cf)) (g : Nat) (cb : Array Value) (blk off cap : Nat) (d : Array α) (w : World)
    (eg : ∀ args w, (callFunc g args).run Tryd.prog w = .ok (.enter g args) w) (hcmp : CmpLays Tryd.prog g cb enc 8 cf blk off d.size w)
    (R : RowK enc 8 w blk off d) (hsz : d.size < 1152921504606846976) :
    Calls Tryd.prog 43 #[.slice (some ⟨blk, off, none⟩) d.size cap, .func (.func g) #[] cb] w fun e w' => e = .returned (.tuple #[]) ∧ ∃ d', PermIn 0 d.size d d' ∧ SortedIn (ltOf cf) 0 d.size d' ∧ SWK enc 8 w blk off d' w' :=
  sortStable 8 lay Tryd.func43 Tryd.func68 (fun _ _ => by rfl) (fun _ _ => by rfl) (fun _ _ => by rfl) enc cf g cb blk off cap d.size d w w (SWK.start R.hH) rfl hsz
    (fun a b hab hb => insC enc cf hS g cb blk off cap d w eg hcmp R (by omega) a b hab hb)
    (fun a m b h1 h2 h3 => symMerge 8 lay Tryd.func92 (fun _ _ => by rfl) Tryd.func87 (fun _ _ => by rfl) Tryd.func80 (fun _ _ => by rfl) enc cf hS g cb blk off cap d.size d w eg hcmp R rfl (by omega) (b - a + 1) a m b (Nat.lt_succ_self _) h1 h2 h3)
end St
end Go.Proofs.YtacchooggifnhaaDoor
namespace Go.Proofs.YtacchooggifnhaaDoor
open Go.Sort Go.Lib
def Asc (M : List Ev) : Prop := M.Pairwise (fun a b => ordE a b < 0)
def NoClash (U : List Ev) : Prop := ∀ x ∈ U, ∀ y ∈ U, ordE x y = 0 → x = y
def Adj (P : Ev → Ev → Prop) (C : List Ev) : Prop := ∀ j x y, C[j]? = some x → C[j + 1]? = some y → P x y
theorem Adj.nil (P : Ev → Ev → Prop) : Adj P [] := fun j x y h => by simp at h
theorem Adj.snoc {P : Ev → Ev → Prop} {C : List Ev} {y : Ev} (h : Adj P C) (hl : ∀ x, C.getLast? = some x → P x y) : Adj P (C ++ [y]) := by
  intro j a b ha hb
  by_cases h1 : j + 1 < C.length
  · rw [List.getElem?_append_left (by omega)] at ha hb
    exact h j a b ha hb
  · by_cases h2 : j + 1 = C.length
    · rw [List.getElem?_append_left (by omega)] at ha
      rw [List.getElem?_append_right (by omega), h2, Nat.sub_self] at hb
      have : y = b := by simpa using hb
      subst this
      refine hl a ?_
      rw [List.getLast?_eq_getElem?, ← h2, Nat.add_sub_cancel]; exact ha
    · rw [List.getElem?_append_right (by omega)] at hb
      rw [List.getElem?_eq_none (by simp; omega)] at hb; cases hb
theorem Adj.tail {P : Ev → Ev → Prop} {x : Ev} {C : List Ev} (h : Adj P (x :: C)) : Adj P C := fun j a b ha hb => h (j + 1) a b (by simpa using ha) (by simpa using hb)
theorem asc_head {x : Ev} : ∀ {C : List Ev}, Adj (fun a b => ordE a b < 0) (x :: C) → ∀ y ∈ C, ordE x y < 0
  | [], _, _, h => by cases h
  | z :: C, h, y, hy => by
    have h1 : ordE x z < 0 := h 0 x z rfl rfl
    rcases List.mem_cons.1 hy with rfl | hy
    · exact h1
    · exact ordE_lt_trans h1 (asc_head h.tail y hy)
theorem asc_of_adj : ∀ {C : List Ev}, Adj (fun a b => ordE a b < 0) C → Asc C
  | [], _ => List.Pairwise.nil
  | _ :: _, h => List.Pairwise.cons (asc_head h) (asc_of_adj h.tail)
theorem asc_unique : ∀ {M M' : List Ev}, Asc M → Asc M' → (∀ x, x ∈ M ↔ x ∈ M') → M = M'
  | [], [], _, _, _ => rfl
  | [], y :: M', _, _, h => by have := (h y).2 (by simp); cases this
  | x :: M, [], _, _, h => by have := (h x).1 (by simp); cases this
  | x :: M, y :: M', h1, h2, h => by
    obtain ⟨a1, a2⟩ := List.pairwise_cons.1 h1
    obtain ⟨b1, b2⟩ := List.pairwise_cons.1 h2
    have hxy : x = y := by
      rcases List.mem_cons.1 ((h x).1 (by simp)) with e | e
      · exact e
      · rcases List.mem_cons.1 ((h y).2 (by simp)) with e' | e'
        · exact e'.symm
        · have := a1 y e'; have := b1 x e; rw [ordE_anti x y] at this; omega
    subst hxy
    congr 1
    refine asc_unique a2 b2 fun z => ?_
    constructor
    · intro hz
      rcases List.mem_cons.1 ((h z).1 (List.mem_cons_of_mem _ hz)) with e | e
      · subst e; have := a1 z hz; rw [ordE_self] at this; omega
      · exact e
    · intro hz
      rcases List.mem_cons.1 ((h z).2 (List.mem_cons_of_mem _ hz)) with e | e
      · subst e; have := b1 z hz; rw [ordE_self] at this; omega
      · exact e
theorem asc_noClash {M : List Ev} (h : Asc M) : NoClash M := by
  intro x hx y hy h0
  obtain ⟨i, hi, rfl⟩ := List.getElem_of_mem hx
  obtain ⟨j, hj, rfl⟩ := List.getElem_of_mem hy
  rcases Nat.lt_trichotomy i j with h1 | h1 | h1
  · have := List.pairwise_iff_getElem.1 h i j hi hj h1; omega
  · subst h1; rfl
  · have := List.pairwise_iff_getElem.1 h j i hj hi h1; rw [ordE_anti, h0] at this; omega

/-- What a list in order becomes, compacted. -/
theorem cpt_inv (d : Array Ev) : ∀ m, m ≤ d.size → (∀ x, x ∈ compactUpTo d m ↔ ∃ j, j < m ∧ d[j]! = x) ∧ (0 < m → (compactUpTo d m).getLast? = some d[m - 1]!) ∧ Adj (fun a b => a ≠ b ∧ ∃ i j, i < j ∧ j < m ∧ d[i]! = a ∧ d[j]! = b) (compactUpTo d m)
  | 0, _ => ⟨fun x => by simp [compactUpTo], fun h => by omega, by simp only [compactUpTo, List.range_zero, List.filter_nil, List.map_nil]; exact Adj.nil _⟩
  | m + 1, hm => by
    obtain ⟨h1, h2, h3⟩ := cpt_inv d m (by omega)
    rw [compactUpTo_succ]
    have h3' : Adj (fun a b => a ≠ b ∧ ∃ i j, i < j ∧ j < m + 1 ∧ d[i]! = a ∧ d[j]! = b) (compactUpTo d m) := fun j x y hx hy => by
      obtain ⟨k1, i, k, k2, k3, k4, k5⟩ := h3 j x y hx hy
      exact ⟨k1, i, k, k2, by omega, k4, k5⟩
    by_cases hk : keeps d m = true
    · rw [if_pos hk]
      refine ⟨fun x => ?_, fun _ => by simp, h3'.snoc fun x hx => ?_⟩
      · simp only [List.mem_append, h1, List.mem_singleton]
        constructor
        · rintro (⟨j, hj, rfl⟩ | rfl)
          · exact ⟨j, by omega, rfl⟩
          · exact ⟨m, by omega, rfl⟩
        · rintro ⟨j, hj, rfl⟩
          by_cases e : j = m
          · subst e; exact .inr rfl
          · exact .inl ⟨j, by omega, rfl⟩
      · by_cases hm0 : m = 0
        · subst hm0; simp [compactUpTo] at hx
        · rw [h2 (by omega)] at hx
          obtain rfl := Option.some.inj hx
          refine ⟨fun e => ?_, m - 1, m, by omega, by omega, rfl, rfl⟩
          simp only [keeps, decide_eq_true_eq] at hk
          rcases hk with hk | hk
          · exact hm0 hk
          · exact hk e.symm
    · have hk' : keeps d m = false := by simpa using hk
      have hm0 : m ≠ 0 := fun e => by subst e; simp [keeps] at hk'
      have hd : d[m]! = d[m - 1]! := by
        simp only [keeps, decide_eq_false_iff_not] at hk'
        exact Classical.byContradiction fun h => hk' (.inr h)
      rw [if_neg hk, List.append_nil]
      refine ⟨fun x => ?_, fun _ => by rw [h2 (by omega), Nat.add_sub_cancel, hd], h3'⟩
      rw [h1]
      constructor
      · rintro ⟨j, hj, rfl⟩; exact ⟨j, by omega, rfl⟩
      · rintro ⟨j, hj, rfl⟩
        by_cases e : j = m
        · subst e; exact ⟨j - 1, by omega, hd.symm⟩
        · exact ⟨j, by omega, rfl⟩
theorem perm_mem {U : List Ev} {d' : Array Ev} (hp : PermIn 0 U.toArray.size U.toArray d') (x : Ev) : (∃ j, j < d'.size ∧ d'[j]! = x) ↔ x ∈ U := by
  obtain ⟨hs, _, hq⟩ := hp
  have e1 : (d'.extract 0 U.toArray.size).toList = d'.toList := by rw [← hs]; simp
  have e2 : (U.toArray.extract 0 U.toArray.size).toList = U := by simp
  rw [e1, e2] at hq
  rw [← hq.mem_iff]
  constructor
  · rintro ⟨j, hj, rfl⟩; rw [getElem!_pos d' j hj]; exact Array.getElem_mem_toList hj
  · intro h
    obtain ⟨j, hj, rfl⟩ := List.getElem_of_mem h
    have hj' : j < d'.size := by simpa using hj
    exact ⟨j, hj', by rw [getElem!_pos d' j hj']; simp⟩
/-- What was sorted and compacted: the events of U, in order, but for clashes. -/
theorem cpt_sorted {U : List Ev} {d' : Array Ev} (hp : PermIn 0 U.toArray.size U.toArray d') (hs : SortedIn (ltOf ordE) 0 U.toArray.size d') :
    (∀ x, x ∈ compactUpTo d' d'.size ↔ x ∈ U) ∧ Adj (fun a b => a ≠ b ∧ ordE a b ≤ 0) (compactUpTo d' d'.size) := by
  obtain ⟨h1, _, h3⟩ := cpt_inv d' d'.size (Nat.le_refl _)
  refine ⟨fun x => (h1 x).trans (perm_mem hp x), fun j x y hx hy => ?_⟩
  obtain ⟨k1, i, k, k2, k3, rfl, rfl⟩ := h3 j x y hx hy
  refine ⟨k1, ?_⟩
  have := hs i k (by omega) k2 (by rw [← hp.1]; exact k3)
  simp only [ltOf, decide_eq_false_iff_not, Int.not_lt] at this
  rw [ordE_anti] at this; omega
theorem clash_of {U C : List Ev} (hm : ∀ x, x ∈ C ↔ x ∈ U) (ha : Adj (fun a b => a ≠ b ∧ ordE a b ≤ 0) C) {j : Nat} {x y : Ev} (hx : C[j]? = some x) (hy : C[j + 1]? = some y) (h0 : ordE x y = 0) : ¬ NoClash U := by
  intro hn
  exact (ha j x y hx hy).1 (hn x ((hm x).1 (List.mem_of_getElem? hx)) y ((hm y).1 (List.mem_of_getElem? hy)) h0)
theorem asc_of {C : List Ev} (ha : Adj (fun a b => a ≠ b ∧ ordE a b ≤ 0) C) (hn : Adj (fun a b => ordE a b ≠ 0) C) : Asc C :=
  asc_of_adj fun j x y hx hy => by have := (ha j x y hx hy).2; have := hn j x y hx hy; show ordE x y < 0; omega
end Go.Proofs.YtacchooggifnhaaDoor
