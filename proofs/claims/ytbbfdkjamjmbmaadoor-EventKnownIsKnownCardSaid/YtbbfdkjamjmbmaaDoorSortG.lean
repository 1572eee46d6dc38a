/- The stable sort: blocks sorted by insertion, merged two by two. -/
import Derived.Test.YtbbfdkjamjmbmaaDoorSortE
import Derived.Test.YtbbfdkjamjmbmaaDoorSortF
namespace Go.Proofs.YtbbfdkjamjmbmaaDoor
namespace St
open Go.Shelf Go.RowKit Go.Lib Go.Sort
variable {P : Program} {α : Type} [Inhabited α]
/-- What the sort by insertion does on [a, b). -/
def InsC (P : Program) (enc : α → List Value) (k : Nat) (cf : α → α → Int) (g : Nat) (cb : Array Value) (blk off cap size : Nat) (w0 : World) (a b : Nat) : Prop := ∀ (d : Array α) (w : World), d.size = size → SWK enc k w0 blk off d w →
  Calls P 41 #[.slice (some ⟨blk, off, none⟩) size cap, .int .i64 a, .int .i64 b, .func (.func g) #[] cb] w fun e w' => e = .returned (.tuple #[]) ∧ ∃ d', PermIn a b d d' ∧ SortedIn (ltOf cf) a b d' ∧ SWK enc k w0 blk off d' w'
theorem perm_wide {a b n : Nat} {d d1 d2 : Array α} (h : PermIn 0 n d d1) (h2 : PermIn a b d1 d2) (hb : b ≤ n) (hn : n ≤ d1.size) : PermIn 0 n d d2 := permIn_trans _ _ _ _ _ h (permIn_mono _ _ _ _ _ _ (Nat.zero_le _) hb hn h2)
set_option maxHeartbeats 8000000 in
set_option maxRecDepth 1000000 in
theorem stable (k : Nat) (L : Lay P k) (FG : P.funcs[35]? = some Tryd.f35) (e84 : ∀ args w, (callFunc 41 args).run P w = .ok (.enter 41 args) w) (e85 : ∀ args w, (callFunc 42 args).run P w = .ok (.enter 42 args) w) (enc : α → List Value) (cf : α → α → Int) (g : Nat) (cb : Array Value) (blk off cap n : Nat) (d : Array α) (w0 w : World)
    (S : SWK enc k w0 blk off d w) (hn : n = d.size) (hsz : n < 1152921504606846976)
    (HI : ∀ a b, a ≤ b → b ≤ n → InsC P enc k cf g cb blk off cap n w0 a b) (HM : ∀ a m b, a < m → m < b → b ≤ n → Sym P enc k cf g cb blk off cap n w0 a m b) :
    Calls P 35 #[.slice (some ⟨blk, off, none⟩) n cap, .int .i64 n, .func (.func g) #[] cb] w fun e w' => e = .returned (.tuple #[]) ∧ ∃ d', PermIn 0 n d d' ∧ SortedIn (ltOf cf) 0 n d' ∧ SWK enc k w0 blk off d' w' := by
  have mixed := L.mixed; have t0 := L.t0; have a0 := L.a0; have z0 := L.z0; have v0 := L.v0; have t3 := L.t3; have a3 := L.a3; have z3 := L.z3; have v3 := L.v3; have t4 := L.t4; have a4 := L.a4; have z4 := L.z4; have v4 := L.v4; have tS := L.tS; have aS := L.aS; have zS := L.zS; have vS := L.vS; have tF := L.tF; have aF := L.aF; have zF := L.zF; have vF := L.vF
  have S0 : Aside (SWK enc k w0 blk off d w) := S
  have IA : Aside _ := HI
  have MA : Aside _ := HM
  have HN : Hid (n = d.size) := hn
  clear S HI HM hn
  go_enter FG, Tryd.ntmps35
  go_wp2
  go_loopg [7, 8] n (fun kx s7 s8 wr => ∃ (A : Nat) (dk : Array α), s7 = .int .i64 A ∧ s8 = .int .i64 ((A : Int) + 20) ∧ A ≤ n ∧ n - A ≤ kx ∧ Aside (SWK enc k w0 blk off dk wr) ∧ Hid (Ins (ltOf cf) 20 A dk) ∧ Hid (PermIn 0 n d dk))
  case atStart => exact ⟨0, d, rfl, rfl, by omega, by omega, S0, Ins.start _ _, permIn_refl _ _ _⟩
  case round =>
    clear S0
    obtain ⟨A, dk, rfl, rfl, hA, hkx, S1, HI, HP⟩ := hrel
    have hdk : dk.size = n := HP.out.1.trans HN.out.symm
    have HDK : Hid (dk.size = n) := hdk
    clear hdk
    by_cases hlt : A + 20 ≤ n
    · have hltz : (A : Int) + 20 ≤ (n : Int) := by omega
      have hc := IA.out A (A + 20) (by omega) hlt dk _ HDK.out S1.out
      have ec : ((A + 20 : Nat) : Int) = (A : Int) + 20 := by omega
      rw [ec] at hc
      clear ec S1
      go_wp2_with (go_at_fn 41; refine hc.mono ?_; rintro e w1 ⟨rfl, d1, hp, hs, S2⟩)
      go_roundg (n - (A + 20))
      case measure => omega
      case rel => exact ⟨A + 20, d1, by first | rfl | (congr 1; omega), by first | rfl | (congr 1; omega), hlt, Nat.le_refl _, S2, HI.out.step hp hs, perm_wide HP.out hp hlt (by rw [HDK.out]; exact Nat.le_refl _)⟩
    · have hltz : ¬ (A : Int) + 20 ≤ (n : Int) := by omega
      have hc := IA.out A n hA (Nat.le_refl _) dk _ HDK.out S1.out
      clear S1
      go_wp2_with (go_at_fn 41; refine hc.mono ?_; rintro e w1 ⟨rfl, d1, hp, hs, S2⟩)
      have S3 : Aside (SWK enc k w0 blk off d1 w1) := S2
      have HB : Hid (Blks (ltOf cf) 20 n d1) := HI.out.done (by omega) hp hs
      have HP1 : Hid (PermIn 0 n d d1) := perm_wide HP.out hp (Nat.le_refl _) (by rw [HDK.out]; exact Nat.le_refl _)
      clear hc S2 hp hs HI HP HDK hltz
      go_loopg [6] n (fun kx s6 wr2 => ∃ (bs : Nat) (dk : Array α), s6 = .int .i64 bs ∧ 20 ≤ bs ∧ bs < 2305843009213693952 ∧ n - bs ≤ kx ∧ Aside (SWK enc k w0 blk off dk wr2) ∧ Hid (Blks (ltOf cf) bs n dk) ∧ Hid (PermIn 0 n d dk))
      case atStart => exact ⟨20, d1, rfl, by omega, by omega, by omega, S3, HB, HP1⟩
      case round =>
        clear S3 HB HP1
        obtain ⟨bs, dq, rfl, hbs, hbs2, hkx2, S1, HB, HP⟩ := hrel
        by_cases hlb : bs < n
        · have hlbz : (bs : Int) < (n : Int) := by omega
          go_wp2
          have HM0 : Hid (Mrg (ltOf cf) bs 0 n dq) := Mrg.start HB.out
          clear HB
          have S4 : Aside (SWK enc k w0 blk off dq wr) := S1
          clear S1
          go_loopg [7, 8] n (fun kx s7 s8 wr3 => ∃ (B : Nat) (dk : Array α), s7 = .int .i64 B ∧ s8 = .int .i64 ((B : Int) + 2 * (bs : Int)) ∧ B ≤ n ∧ n - B ≤ kx ∧ Aside (SWK enc k w0 blk off dk wr3) ∧ Hid (Mrg (ltOf cf) bs B n dk) ∧ Hid (PermIn 0 n d dk))
          case atStart => exact ⟨0, dq, rfl, by congr 1; omega, by omega, by omega, S4, HM0, HP⟩
          case round =>
            clear S4 HM0 HP
            obtain ⟨B, dj, rfl, rfl, hB, hkx3, S1, HG, HP⟩ := hrel
            have HDJ : Hid (dj.size = n) := HP.out.1.trans HN.out.symm
            by_cases hle : B + 2 * bs ≤ n
            · have hlez : (B : Int) + 2 * (bs : Int) ≤ (n : Int) := by omega
              have hl := HG.out.left
              have hr := HG.out.right
              rw [Nat.min_eq_left (by omega)] at hl hr
              have hc := MA.out B (B + bs) (B + 2 * bs) (by omega) (by omega) hle dj _ HDJ.out S1.out hl hr
              have ec1 : ((B + bs : Nat) : Int) = (B : Int) + (bs : Int) := by omega
              have ec2 : ((B + 2 * bs : Nat) : Int) = (B : Int) + 2 * (bs : Int) := by omega
              rw [ec1, ec2] at hc
              clear ec1 ec2 S1 hl hr
              go_wp2_with (go_at_fn 42; refine hc.mono ?_; rintro e w1 ⟨rfl, d2, hp, hs, S2⟩)
              go_roundg (n - (B + 2 * bs))
              case measure => omega
              case rel => exact ⟨B + 2 * bs, d2, by first | rfl | (congr 1; omega), by first | rfl | (congr 1; omega), hle, Nat.le_refl _, S2, HG.out.step hp hs, perm_wide HP.out hp hle (by rw [HDJ.out]; exact Nat.le_refl _)⟩
            · have hlez : ¬ (B : Int) + 2 * (bs : Int) ≤ (n : Int) := by omega
              by_cases hmn : B + bs < n
              · have hmnz : (B : Int) + (bs : Int) < (n : Int) := by omega
                have hl := HG.out.left
                have hr := HG.out.right
                rw [Nat.min_eq_left (by omega)] at hl
                rw [Nat.min_eq_right (by omega)] at hr
                have hc := MA.out B (B + bs) n (by omega) (by omega) (Nat.le_refl _) dj _ HDJ.out S1.out hl hr
                have ec1 : ((B + bs : Nat) : Int) = (B : Int) + (bs : Int) := by omega
                rw [ec1] at hc
                clear ec1 S1 hl hr
                go_wp2_with (go_at_fn 42; refine hc.mono ?_; rintro e w1 ⟨rfl, d2, hp, hs, S2⟩)
                go_roundg (n - 2 * bs)
                case measure => omega
                case rel => exact ⟨2 * bs, d2, by first | rfl | (congr 1; omega), by omega, by omega, Nat.le_refl _, S2, HG.out.done (by omega) hp hs, perm_wide HP.out hp (Nat.le_refl _) (by rw [HDJ.out]; exact Nat.le_refl _)⟩
              · have hmnz : ¬ (B : Int) + (bs : Int) < (n : Int) := by omega
                have hl := HG.out.left
                rw [Nat.min_eq_right (by omega)] at hl
                have HL : Aside _ := hl
                clear hl
                go_wp2
                go_roundg (n - 2 * bs)
                case measure => omega
                case rel => exact ⟨2 * bs, dj, by first | rfl | (congr 1; omega), by omega, by omega, Nat.le_refl _, S1, HG.out.done (by omega) (permIn_refl _ _ _) HL.out, HP⟩
        · have hlbz : ¬ (bs : Int) < (n : Int) := by omega
          go_wp2
          go_end0
          exact ⟨rfl, _, HP.out, HB.out.all (by omega), S1.out⟩
end St
end Go.Proofs.YtbbfdkjamjmbmaaDoor
