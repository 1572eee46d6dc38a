/- The stable sort's rotation, over any program that holds the bodies. -/
import Derived.Test.YtbbfdkjamjmbmaaDoorSortA
namespace Go.Proofs.YtbbfdkjamjmbmaaDoor
namespace St
open Go.Shelf Go.RowKit Go.Lib Go.Sort
variable {P : Program} {α : Type} [Inhabited α]
theorem Rot.size {m i j : Nat} {d d' : Array α} (h : Rot m i j d d') : d'.size = d.size := h.1.1
set_option maxHeartbeats 4000000 in
set_option maxRecDepth 1000000 in
theorem rotate (k : Nat) (L : Lay P k) (F94 : P.funcs[50]? = some Tryd.f50) (e94 : ∀ args w, (callFunc 50 args).run P w = .ok (.enter 50 args) w) (FG : P.funcs[45]? = some Tryd.f45) (enc : α → List Value) (g : Nat) (cb : Array Value) (blk off cap a m b : Nat) (d0 d : Array α) (w0 w : World)
    (R : RowK enc k w0 blk off d0) (hs : d0.size = d.size) (S : SWK enc k w0 blk off d w) (ham : a < m) (hmb : m < b) (hb : b ≤ d.size) (hsz : d.size < 4611686018427387904) :
    Calls P 45 #[.slice (some ⟨blk, off, none⟩) d.size cap, .int .i64 a, .int .i64 m, .int .i64 b, .func (.func g) #[] cb] w fun e w' => e = .returned (.tuple #[]) ∧ ∃ d', Rot m (m - a) (b - m) d d' ∧ SWK enc k w0 blk off d' w' := by
  have mixed := L.mixed; have t0 := L.t0; have a0 := L.a0; have z0 := L.z0; have v0 := L.v0; have t3 := L.t3; have a3 := L.a3; have z3 := L.z3; have v3 := L.v3; have t4 := L.t4; have a4 := L.a4; have z4 := L.z4; have v4 := L.v4; have tS := L.tS; have aS := L.aS; have zS := L.zS; have vS := L.vS; have tF := L.tF; have aF := L.aF; have zF := L.zF; have vF := L.vF
  have S0 : Aside (SWK enc k w0 blk off d w) := S
  clear S
  go_enter FG, Tryd.ntmps45
  go_wp2
  go_loopg [10, 11] (b - a) (fun kx s10 s11 wr => ∃ (i j : Nat) (dk : Array α), s10 = .int .i64 i ∧ s11 = .int .i64 j ∧ 0 < i ∧ i ≤ m ∧ 0 < j ∧ m + j ≤ d.size ∧ i + j ≤ kx ∧ dk.size = d.size ∧ Aside (SWK enc k w0 blk off dk wr) ∧ Hid (∀ d', Rot m i j dk d' → Rot m (m - a) (b - m) d d'))
  case atStart => exact ⟨m - a, b - m, d, by congr 1; omega, by congr 1; omega, by omega, by omega, by omega, by omega, by omega, rfl, S0, fun _ h => h⟩
  case round =>
    clear S0
    obtain ⟨i, j, dk, rfl, rfl, hi0, him, hj0, hjm, hkx, hds, S1, HR⟩ := hrel
    by_cases hij : i = j
    · subst hij
      have hcall := swapRange (P := P) k L F94 enc g cb blk off cap (m - i) m i d0 dk w0 wr R (by omega) S1.out (by omega) (by omega) (by omega)
      have ec : ((m - i : Nat) : Int) = (m : Int) - (i : Int) := by omega
      rw [ec, hds] at hcall
      clear S1
      go_wp2_with (go_at_fn 50; refine hcall.mono ?_; rintro e w1 ⟨rfl, S3⟩)
      go_end0
      exact ⟨rfl, _, HR.out _ (rot_eq dk him (by omega)), S3⟩
    · have hne : ¬ ((i : Int) = (j : Int)) := by omega
      by_cases hlt : j < i
      · have hltz : (j : Int) < (i : Int) := by omega
        have hcall := swapRange (P := P) k L F94 enc g cb blk off cap (m - i) m j d0 dk w0 wr R (by omega) S1.out (by omega) (by omega) (by omega)
        have ec : ((m - i : Nat) : Int) = (m : Int) - (i : Int) := by omega
        rw [ec, hds] at hcall
        clear S1
        go_wp2_with (go_at_fn 50; refine hcall.mono ?_; rintro e w1 ⟨rfl, S3⟩)
        go_roundg (i - j + j)
        case measure => omega
        case rel => exact ⟨i - j, j, rangeSwap dk (m - i) m j, by congr 1; omega, rfl, by omega, by omega, hj0, hjm, Nat.le_refl _, by rw [rangeSwap_size]; exact hds, S3, fun d' h => HR.out d' (rot_more dk d' him hlt (by omega) h)⟩
      · have hltz : ¬ (j : Int) < (i : Int) := by omega
        have hcall := swapRange (P := P) k L F94 enc g cb blk off cap (m - i) (m + j - i) i d0 dk w0 wr R (by omega) S1.out (by omega) (by omega) (by omega)
        have ec : ((m - i : Nat) : Int) = (m : Int) - (i : Int) := by omega
        have ec2 : ((m + j - i : Nat) : Int) = (m : Int) + (j : Int) - (i : Int) := by omega
        rw [ec, ec2, hds] at hcall
        clear S1
        go_wp2_with (go_at_fn 50; refine hcall.mono ?_; rintro e w1 ⟨rfl, S3⟩)
        go_roundg (i + (j - i))
        case measure => omega
        case rel => exact ⟨i, j - i, rangeSwap dk (m - i) (m + j - i) i, rfl, by congr 1; omega, hi0, him, by omega, by omega, Nat.le_refl _, by rw [rangeSwap_size]; exact hds, S3, fun d' h => HR.out d' (rot_less dk d' him hi0 (by omega) (by omega) h)⟩
end St
end Go.Proofs.YtbbfdkjamjmbmaaDoor
