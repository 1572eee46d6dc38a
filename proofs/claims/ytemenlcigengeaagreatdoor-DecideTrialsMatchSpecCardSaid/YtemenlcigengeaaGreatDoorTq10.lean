/- The stable sort's exchange of two parts, over any program that holds the body. The stable sort's rotation, over any program that holds the bodies. The stable sort's merge where one side is a single element, over any program that holds the body. -/
import Derived.Test.YtemenlcigengeaaGreatDoorProg
import Derived.Test.YtemenlcigengeaaGreatDoorTq09
import Derived.Shelf.SlSortCmp.KitK
import Derived.Sort.WalkB2
import Derived.Sort.WalkB12
import Derived.Deep.LoopGhost
namespace Go.Proofs.YtemenlcigengeaaGreatDoor
namespace St
open Go.Shelf Go.RowKit Go.Lib Go.Sort
/-- What the bodies of the stable sort ask of a program. -/
structure Lay (P : Program) (k : Nat) : Prop where
  mixed : P.follows .mixedOrders = true
  t0 : P.underlying 0 = some (TypeDesc.tuple #[])
  a0 : ∀ w, (isAgg 0).run P w = .ok false w
  z0 : ∀ w, (Go.sizeOf 0).run P w = .ok 1 w
  v0 : ∀ w, (zeroValue 0).run P w = .ok (Value.tuple #[]) w
  t3 : P.underlying 3 = some (TypeDesc.int IntKind.i64)
  a3 : ∀ w, (isAgg 3).run P w = .ok false w
  z3 : ∀ w, (Go.sizeOf 3).run P w = .ok 1 w
  v3 : ∀ w, (zeroValue 3).run P w = .ok (Value.int IntKind.i64 0) w
  t4 : P.underlying 4 = some (TypeDesc.bool)
  a4 : ∀ w, (isAgg 4).run P w = .ok false w
  z4 : ∀ w, (Go.sizeOf 4).run P w = .ok 1 w
  v4 : ∀ w, (zeroValue 4).run P w = .ok (Value.bool false) w
  tU : P.underlying 130 = some (TypeDesc.int IntKind.u64)
  aU : ∀ w, (isAgg 130).run P w = .ok false w
  zU : ∀ w, (Go.sizeOf 130).run P w = .ok 1 w
  vU : ∀ w, (zeroValue 130).run P w = .ok (Value.int IntKind.u64 0) w
  tS : P.underlying 26 = some (TypeDesc.slice 57)
  aS : ∀ w, (isAgg 26).run P w = .ok false w
  zS : ∀ w, (Go.sizeOf 26).run P w = .ok 1 w
  vS : ∀ w, (zeroValue 26).run P w = .ok (Value.slice none 0 0) w
  tF : P.underlying 64 = some (TypeDesc.func #[57, 57] #[3] false)
  aF : ∀ w, (isAgg 64).run P w = .ok false w
  zF : ∀ w, (Go.sizeOf 64).run P w = .ok 1 w
  vF : ∀ w, (zeroValue 64).run P w = .ok (Value.nilFunc) w
  aE : ∀ w, (isAgg 57).run P w = .ok true w
  zE : ∀ w, (Go.sizeOf 57).run P w = .ok k w
variable {P : Program} {α : Type} [Inhabited α]
set_option maxHeartbeats 4000000 in
set_option maxRecDepth 1000000 in
theorem swapRange (k : Nat) (L : Lay P k) (FG : P.funcs[137]? = some Tryz.f137) (enc : α → List Value) (g : Nat) (cb : Array Value) (blk off cap a b n : Nat) (d0 d : Array α) (w0 w : World)
    (R : RowK enc k w0 blk off d0) (hs : d0.size = d.size) (S : SWK enc k w0 blk off d w) (hab : a + n ≤ d.size) (hb : b + n ≤ d.size) (hsz : d.size < 4611686018427387904) :
    Calls P 137 #[.slice (some ⟨blk, off, none⟩) d.size cap, .int .i64 a, .int .i64 b, .int .i64 n, .func (.func g) #[] cb] w fun e w' => e = .returned (.tuple #[]) ∧ SWK enc k w0 blk off (rangeSwap d a b n) w' := by
  have mixed := L.mixed; have t0 := L.t0; have a0 := L.a0; have z0 := L.z0; have v0 := L.v0; have t3 := L.t3; have a3 := L.a3; have z3 := L.z3; have v3 := L.v3; have t4 := L.t4; have a4 := L.a4; have z4 := L.z4; have v4 := L.v4; have tS := L.tS; have aS := L.aS; have zS := L.zS; have vS := L.vS; have tF := L.tF; have aF := L.aF; have zF := L.zF; have vF := L.vF; have aE := L.aE; have zE := L.zE
  have S0 : Aside (SWK enc k w0 blk off d w) := S
  clear S
  go_enter FG, Tryz.ntmps137
  go_wp2
  go_loopg [10] n (fun kx s10 wr => ∃ (i : Nat), s10 = .int .i64 i ∧ i ≤ n ∧ n - i ≤ kx ∧ Aside (SWK enc k w0 blk off (rangeSwap d a b i) wr))
  case atStart => exact ⟨0, rfl, by omega, by omega, S0⟩
  case round =>
    clear S0
    obtain ⟨i, rfl, hin, hkx, S1⟩ := hrel
    obtain ⟨dk, hdk⟩ : ∃ dk, dk = rangeSwap d a b i := ⟨_, rfl⟩
    have hds : dk.size = d.size := by rw [hdk, rangeSwap_size]
    rw [← hdk] at S1
    have HDK : Hid (dk = rangeSwap d a b i) := hdk
    clear hdk
    by_cases hlt : i < n
    · have hltz : (i : Int) < (n : Int) := by omega
      go_wp2_with fail
      have ea44 : ((a : Int) + i).toNat = a + i := by omega
      have pa44 : (0 : Int) ≤ (a : Int) + i := by omega
      have ba44 : (a : Int) + i < (d.size : Int) := by omega
      have ra44 : IntKind.i64.wrap ((a : Int) + i) = (a : Int) + i := by rw [IntKind.wrap_i64]; omega
      have ec44 : ((b : Int) + i).toNat = b + i := by omega
      have pc44 : (0 : Int) ≤ (b : Int) + i := by omega
      have bc44 : (b : Int) + i < (d.size : Int) := by omega
      have rc44 : IntKind.i64.wrap ((b : Int) + i) = (b : Int) + i := by rw [IntKind.wrap_i64]; omega
      have S2 : Aside (SWK enc k w0 blk off (swp dk (a + i) (b + i)) ((wr.drew.setCells blk (off + (a + i) * k) (enc dk[b + i]!)).setCells blk (off + (b + i) * k) (enc dk[a + i]!))) := S1.out.swapped R (a + i) (b + i) (by omega) (by omega)
      have l44a := S1.out.ld1 R (by omega) P (a + i) (by omega)
      have l44b := S1.out.ld1 R (by omega) P (b + i) (by omega)
      have s44a := S1.out.st1 R (by omega) P (a + i) (by omega) dk[b + i]!
      have s44b := S1.out.st2 R (by omega) P (a + i) (b + i) (by omega) (by omega) dk[b + i]! dk[a + i]!
      have n44a : (enc dk[a + i]!).length = k := R.hk _
      have n44b : (enc dk[b + i]!).length = k := R.hk _
      generalize enc dk[a + i]! = cI44 at S2 l44a s44b n44a
      generalize enc dk[b + i]! = cJ44 at S2 l44b s44a s44b n44b
      clear S1
      go_wp2_with fail
      go_big_region_o
      clear l44a l44b s44a s44b
      generalize (wr.drew.setCells blk (off + (a + i) * k) cJ44).setCells blk (off + (b + i) * k) cI44 = w2 at S2 ⊢
      go_wp2
      go_roundg (n - (i + 1))
      case measure => omega
      case rel => exact ⟨i + 1, by go_num, by omega, Nat.le_refl _, by rw [rangeSwap, ← HDK.out]; exact S2⟩
    · have hltz : ¬ (i : Int) < (n : Int) := by omega
      go_wp2
      go_end0
      have : i = n := by omega
      subst this
      refine ⟨rfl, ?_⟩
      rw [← HDK.out]
      exact S1.out
end St
end Go.Proofs.YtemenlcigengeaaGreatDoor
namespace Go.Proofs.YtemenlcigengeaaGreatDoor
namespace St
open Go.Shelf Go.RowKit Go.Lib Go.Sort
variable {P : Program} {α : Type} [Inhabited α]
theorem Rot.size {m i j : Nat} {d d' : Array α} (h : Rot m i j d d') : d'.size = d.size := h.1.1
set_option maxHeartbeats 4000000 in
set_option maxRecDepth 1000000 in
theorem rotate (k : Nat) (L : Lay P k) (F94 : P.funcs[137]? = some Tryz.f137) (e94 : ∀ args w, (callFunc 137 args).run P w = .ok (.enter 137 args) w) (FG : P.funcs[114]? = some Tryz.f114) (enc : α → List Value) (g : Nat) (cb : Array Value) (blk off cap a m b : Nat) (d0 d : Array α) (w0 w : World)
    (R : RowK enc k w0 blk off d0) (hs : d0.size = d.size) (S : SWK enc k w0 blk off d w) (ham : a < m) (hmb : m < b) (hb : b ≤ d.size) (hsz : d.size < 4611686018427387904) :
    Calls P 114 #[.slice (some ⟨blk, off, none⟩) d.size cap, .int .i64 a, .int .i64 m, .int .i64 b, .func (.func g) #[] cb] w fun e w' => e = .returned (.tuple #[]) ∧ ∃ d', Rot m (m - a) (b - m) d d' ∧ SWK enc k w0 blk off d' w' := by
  have mixed := L.mixed; have t0 := L.t0; have a0 := L.a0; have z0 := L.z0; have v0 := L.v0; have t3 := L.t3; have a3 := L.a3; have z3 := L.z3; have v3 := L.v3; have t4 := L.t4; have a4 := L.a4; have z4 := L.z4; have v4 := L.v4; have tS := L.tS; have aS := L.aS; have zS := L.zS; have vS := L.vS; have tF := L.tF; have aF := L.aF; have zF := L.zF; have vF := L.vF
  have S0 : Aside (SWK enc k w0 blk off d w) := S
  clear S
  go_enter FG, Tryz.ntmps114
  go_wp2
  go_loopg [10, 11] (b - a) (fun kx s10 s11 wr => ∃ (i j : Nat) (dk : Array α), s10 = .int .i64 i ∧ s11 = .int .i64 j ∧ 0 < i ∧ i ≤ m ∧ 0 < j ∧ m + j ≤ d.size ∧ i + j ≤ kx ∧ dk.size = d.size ∧ Aside (SWK enc k w0 blk off dk wr) ∧ Hid (∀ d', Rot m i j dk d' → Rot m (m - a) (b - m) d d'))
  case atStart => exact ⟨m - a, b - m, d, by congr 1; omega, by congr 1; omega, by omega, by omega, by omega, by omega, by omega, rfl, S0, fun _ h => h⟩
  case round =>
    clear S0
    obtain ⟨i, j, dk, rfl, rfl, hi0, him, hj0, hjm, hkx, hds, S1, HR⟩ := hrel
    by_cases hij : i = j
    · subst hij
      have hcall := swapRange (P := P) k L F94 enc g cb blk off cap (m - i) m i d0 dk w0 wr R (by omega) S1.out (by omega) (by omega) (by omega)
      have ec : ((m - i : Nat) : Int) = (m : Int) - (i : Int) := by omega
      rw [ec, hds] at hcall
      clear S1
      go_wp2_with (go_at_fn 137; refine hcall.mono ?_; rintro e w1 ⟨rfl, S3⟩)
      go_end0
      exact ⟨rfl, _, HR.out _ (rot_eq dk him (by omega)), S3⟩
    · have hne : ¬ ((i : Int) = (j : Int)) := by omega
      by_cases hlt : j < i
      · have hltz : (j : Int) < (i : Int) := by omega
        have hcall := swapRange (P := P) k L F94 enc g cb blk off cap (m - i) m j d0 dk w0 wr R (by omega) S1.out (by omega) (by omega) (by omega)
        have ec : ((m - i : Nat) : Int) = (m : Int) - (i : Int) := by omega
        rw [ec, hds] at hcall
        clear S1
        go_wp2_with (go_at_fn 137; refine hcall.mono ?_; rintro e w1 ⟨rfl, S3⟩)
        go_roundg (i - j + j)
        case measure => omega
        case rel => exact ⟨i - j, j, rangeSwap dk (m - i) m j, by congr 1; omega, rfl, by omega, by omega, hj0, hjm, Nat.le_refl _, by rw [rangeSwap_size]; exact hds, S3, fun d' h => HR.out d' (rot_more dk d' him hlt (by omega) h)⟩
      · have hltz : ¬ (j : Int) < (i : Int) := by omega
        have hcall := swapRange (P := P) k L F94 enc g cb blk off cap (m - i) (m + j - i) i d0 dk w0 wr R (by omega) S1.out (by omega) (by omega) (by omega)
        have ec : ((m - i : Nat) : Int) = (m : Int) - (i : Int) := by omega
        have ec2 : ((m + j - i : Nat) : Int) = (m : Int) + (j : Int) - (i : Int) := by omega
        rw [ec, ec2, hds] at hcall
        clear S1
        go_wp2_with (go_at_fn 137; refine hcall.mono ?_; rintro e w1 ⟨rfl, S3⟩)
        go_roundg (i + (j - i))
        case measure => omega
        case rel => exact ⟨i, j - i, rangeSwap dk (m - i) (m + j - i) i, rfl, by congr 1; omega, hi0, him, by omega, by omega, Nat.le_refl _, by rw [rangeSwap_size]; exact hds, S3, fun d' h => HR.out d' (rot_less dk d' him hi0 (by omega) (by omega) h)⟩
end St
end Go.Proofs.YtemenlcigengeaaGreatDoor
namespace Go.Proofs.YtemenlcigengeaaGreatDoor
namespace St
open Go.Shelf Go.RowKit Go.Lib Go.Sort
variable {P : Program} {α : Type} [Inhabited α]
set_option maxHeartbeats 4000000 in
set_option maxRecDepth 1000000 in
theorem symL (k : Nat) (L : Lay P k) (FG : P.funcs[91]? = some Tryz.f91) (enc : α → List Value) (cf : α → α → Int) {lt : α → α → Bool} (hS : SWO lt) (g : Nat) (cb : Array Value) (blk off cap a b : Nat) (d0 d : Array α) (w0 w : World)
    (eg : ∀ args w, (callFunc g args).run P w = .ok (.enter g args) w) (hcmp : CmpLays P g cb enc k cf blk off d.size w0)
    (R : RowK enc k w0 blk off d0) (hs : d0.size = d.size) (S : SWK enc k w0 blk off d w) (hab : a + 1 < b) (hb : b ≤ d.size) (hsz : d.size < 4611686018427387904) (hSt : SortedIn lt (a + 1) b d) (hX : ∀ x, a + 1 ≤ x → x < b → lt d[x]! d[a]! = ltOf cf d[x]! d[a]!) :
    Calls P 91 #[.slice (some ⟨blk, off, none⟩) d.size cap, .int .i64 a, .int .i64 ((a : Int) + 1), .int .i64 b, .func (.func g) #[] cb] w fun e w' => e = .returned (.tuple #[]) ∧ ∃ d', PermIn a b d d' ∧ SortedIn lt a b d' ∧ SWK enc k w0 blk off d' w' := by
  have mixed := L.mixed; have t0 := L.t0; have a0 := L.a0; have z0 := L.z0; have v0 := L.v0; have t3 := L.t3; have a3 := L.a3; have z3 := L.z3; have v3 := L.v3; have t4 := L.t4; have a4 := L.a4; have z4 := L.z4; have v4 := L.v4; have tU := L.tU; have aU := L.aU; have zU := L.zU; have vU := L.vU; have tS := L.tS; have aS := L.aS; have zS := L.zS; have vS := L.vS; have tF := L.tF; have aF := L.aF; have zF := L.zF; have vF := L.vF; have aE := L.aE; have zE := L.zE
  have HC : Aside _ := hcmp
  have S0 : Aside (SWK enc k w0 blk off d w) := S
  have SW : Aside (SWO lt) := hS
  have ST : Aside _ := hSt
  have HX : Aside _ := hX
  clear S hS hSt hcmp hX
  have e1 : (a : Int) + 1 - (a : Int) = 1 := by omega
  go_enter FG, Tryz.ntmps91
  go_wp2_with fail
  go_loopg [10, 11] (b - a) (fun kx s10 s11 wr => ∃ (i j : Nat), s10 = .int .i64 i ∧ s11 = .int .i64 j ∧ a + 1 ≤ i ∧ i ≤ j ∧ j ≤ b ∧ j - i ≤ kx ∧ Aside (SWK enc k w0 blk off d wr) ∧ Hid (∀ x, a + 1 ≤ x → x < i → lt d[x]! d[a]! = true) ∧ Hid (∀ x, j ≤ x → x < b → lt d[x]! d[a]! = false))
  case atStart => exact ⟨a + 1, b, by congr 1, rfl, by omega, by omega, by omega, by omega, S0, fun x h1 h2 => by omega, fun x h1 h2 => by omega⟩
  case round =>
    clear S0
    obtain ⟨i, j, rfl, rfl, hi0, hijl, hjb, hkx, S1, HL, HR⟩ := hrel
    by_cases hij : i < j
    · have hijz : (i : Int) < (j : Int) := by omega
      obtain ⟨h, hh⟩ : ∃ h, h = (i + j) / 2 := ⟨_, rfl⟩
      have hh1 : i ≤ h := by omega
      have hh2 : h < j := by omega
      go_wp2_with fail
      have ehz : ((i : Int) + (j : Int)) / 2 = (h : Int) := by omega
      simp only [ehz]
      clear ehz hh
      cases hG : lt d[h]! d[a]! with
      | true =>
        have HL2 : Hid (∀ x, a + 1 ≤ x → x < h + 1 → lt d[x]! d[a]! = true) := fun x h1 h2 => le_lt SW.out (sorted_le SW.out ST.out h1 (Nat.le_of_lt_succ h2) (by omega)) hG
        have ea24 : (((h : Int) : Int)).toNat = h := by omega
        have pa24 : (0 : Int) ≤ (h : Int) := by omega
        have ba24 : (h : Int) < (d.size : Int) := by omega
        have ra24 : IntKind.i64.wrap ((h : Int)) = (h : Int) := by rw [IntKind.wrap_i64]; omega
        have ec24 : (((a : Int) : Int)).toNat = a := by omega
        have pc24 : (0 : Int) ≤ (a : Int) := by omega
        have bc24 : (a : Int) < (d.size : Int) := by omega
        have rc24 : IntKind.i64.wrap ((a : Int)) = (a : Int) := by rw [IntKind.wrap_i64]; omega
        obtain ⟨x24, hx24⟩ : ∃ x, x = d[h]! := ⟨_, rfl⟩
        obtain ⟨y24, hy24⟩ : ∃ x, x = d[a]! := ⟨_, rfl⟩
        have l24a := S1.out.ld R (by omega) P (h) (by omega)
        have l24b := S1.out.ld R (by omega) P (a) (by omega)
        rw [← hx24] at l24a
        rw [← hy24] at l24b
        have hc24 := S1.out.cmp HC.out (by omega) x24 y24
        have hv24 : cf x24 y24 < 0 := by rw [hx24, hy24]; exact of_decide_eq_true ((HX.out h (by omega) (by omega)).symm.trans hG)
        have hd24 : decide (cf x24 y24 < 0) = true := decide_eq_true hv24
        clear hx24 hy24
        go_wp2_with fail
        go_quiet_grown (first | (go_at_fn g; refine Calls.grown_of (hc24 _ _)))
        have S2 : Aside (SWK enc k w0 blk off d (grow (wr.drewN nq) osq)) := S1.out.grown nq osq
        clear l24a l24b hc24 S1
        generalize grow (wr.drewN nq) osq = w2 at S2 ⊢
        clear nq osq
        go_wp2
        go_roundg (j - (h + 1))
        case measure => omega
        case rel => exact ⟨h + 1, j, by go_num, rfl, by omega, by omega, hjb, Nat.le_refl _, S2, HL2, HR⟩
      | false =>
        have HR2 : Hid (∀ x, h ≤ x → x < b → lt d[x]! d[a]! = false) := fun x h1 h2 => SW.out.ntrans _ _ _ (sorted_le SW.out ST.out (by omega) h1 h2) hG
        have ea25 : (((h : Int) : Int)).toNat = h := by omega
        have pa25 : (0 : Int) ≤ (h : Int) := by omega
        have ba25 : (h : Int) < (d.size : Int) := by omega
        have ra25 : IntKind.i64.wrap ((h : Int)) = (h : Int) := by rw [IntKind.wrap_i64]; omega
        have ec25 : (((a : Int) : Int)).toNat = a := by omega
        have pc25 : (0 : Int) ≤ (a : Int) := by omega
        have bc25 : (a : Int) < (d.size : Int) := by omega
        have rc25 : IntKind.i64.wrap ((a : Int)) = (a : Int) := by rw [IntKind.wrap_i64]; omega
        obtain ⟨x25, hx25⟩ : ∃ x, x = d[h]! := ⟨_, rfl⟩
        obtain ⟨y25, hy25⟩ : ∃ x, x = d[a]! := ⟨_, rfl⟩
        have l25a := S1.out.ld R (by omega) P (h) (by omega)
        have l25b := S1.out.ld R (by omega) P (a) (by omega)
        rw [← hx25] at l25a
        rw [← hy25] at l25b
        have hc25 := S1.out.cmp HC.out (by omega) x25 y25
        have hv25 : ¬ cf x25 y25 < 0 := by rw [hx25, hy25]; exact of_decide_eq_false ((HX.out h (by omega) (by omega)).symm.trans hG)
        have hd25 : decide (cf x25 y25 < 0) = false := decide_eq_false hv25
        clear hx25 hy25
        go_wp2_with fail
        go_quiet_grown (first | (go_at_fn g; refine Calls.grown_of (hc25 _ _)))
        have S2 : Aside (SWK enc k w0 blk off d (grow (wr.drewN nq) osq)) := S1.out.grown nq osq
        clear l25a l25b hc25 S1
        generalize grow (wr.drewN nq) osq = w2 at S2 ⊢
        clear nq osq
        go_wp2
        go_roundg (h - i)
        case measure => omega
        case rel => exact ⟨i, h, rfl, rfl, hi0, hh1, by omega, Nat.le_refl _, S2, HL, HR2⟩
    · have hijz : ¬ (i : Int) < (j : Int) := by omega
      obtain rfl : i = j := by omega
      have FIN : Aside (SortedIn lt a b (shiftUp d a (i - 1 - a))) := merge_one_left SW.out hb hi0 hjb ST.out HL.out HR.out
      have PRM : Aside (PermIn a b d (shiftUp d a (i - 1 - a))) := shiftUp_perm d hb _ (by omega)
      clear HL HR hijz
      go_wp2
      go_loopg [13] (b - a) (fun kx s13 wr2 => ∃ (q : Nat), s13 = .int .i64 ((a : Int) + q) ∧ a + q ≤ i - 1 ∧ i - 1 - a - q ≤ kx ∧ Aside (SWK enc k w0 blk off (shiftUp d a q) wr2))
      case atStart => exact ⟨0, by simp, by omega, by omega, S1⟩
      case round =>
        clear S1
        obtain ⟨q, rfl, hq, hkx2, S1⟩ := hrel
        obtain ⟨dk, hdk⟩ : ∃ dk, dk = shiftUp d a q := ⟨_, rfl⟩
        have hds : dk.size = d.size := by rw [hdk, shiftUp_size]
        rw [← hdk] at S1
        have HDK : Hid (dk = shiftUp d a q) := hdk
        clear hdk
        by_cases hlt : a + q < i - 1
        · have hltz : (a : Int) + (q : Int) < (i : Int) - 1 := by omega
          go_wp2_with fail
          have ea26 : (((a : Int) + (q : Int) : Int)).toNat = a + q := by omega
          have pa26 : (0 : Int) ≤ (a : Int) + (q : Int) := by omega
          have ba26 : (a : Int) + (q : Int) < (d.size : Int) := by omega
          have ra26 : IntKind.i64.wrap ((a : Int) + (q : Int)) = (a : Int) + (q : Int) := by rw [IntKind.wrap_i64]; omega
          have ec26 : (((a : Int) + (q : Int) + 1 : Int)).toNat = a + q + 1 := by omega
          have pc26 : (0 : Int) ≤ (a : Int) + (q : Int) + 1 := by omega
          have bc26 : (a : Int) + (q : Int) + 1 < (d.size : Int) := by omega
          have rc26 : IntKind.i64.wrap ((a : Int) + (q : Int) + 1) = (a : Int) + (q : Int) + 1 := by rw [IntKind.wrap_i64]; omega
          have S2 : Aside (SWK enc k w0 blk off (swp dk (a + q) (a + q + 1)) ((wr.drew.setCells blk (off + (a + q) * k) (enc dk[a + q + 1]!)).setCells blk (off + (a + q + 1) * k) (enc dk[a + q]!))) := S1.out.swapped R (a + q) (a + q + 1) (by omega) (by omega)
          have l26a := S1.out.ld1 R (by omega) P (a + q) (by omega)
          have l26b := S1.out.ld1 R (by omega) P (a + q + 1) (by omega)
          have s26a := S1.out.st1 R (by omega) P (a + q) (by omega) dk[a + q + 1]!
          have s26b := S1.out.st2 R (by omega) P (a + q) (a + q + 1) (by omega) (by omega) dk[a + q + 1]! dk[a + q]!
          have n26a : (enc dk[a + q]!).length = k := R.hk _
          have n26b : (enc dk[a + q + 1]!).length = k := R.hk _
          generalize enc dk[a + q]! = cI26 at S2 l26a s26b n26a
          generalize enc dk[a + q + 1]! = cJ26 at S2 l26b s26a s26b n26b
          clear S1
          go_wp2_with fail
          go_big_region_o
          clear l26a l26b s26a s26b
          generalize (wr.drew.setCells blk (off + (a + q) * k) cJ26).setCells blk (off + (a + q + 1) * k) cI26 = w2 at S2 ⊢
          go_wp2
          go_roundg (i - 1 - a - (q + 1))
          case measure => omega
          case rel => exact ⟨q + 1, by congr 1 <;> omega, by omega, Nat.le_refl _, by rw [shiftUp, ← HDK.out]; exact S2⟩
        · have hltz : ¬ (a : Int) + (q : Int) < (i : Int) - 1 := by omega
          go_wp2
          (try simp only [Exit.inBlock, Exit.then]); refine bodyPost_ret (results_none rfl _ _ _) rfl ?_
          have eq : q = i - 1 - a := by omega
          subst eq
          exact ⟨rfl, _, PRM.out, FIN.out, by rw [← HDK.out]; exact S1.out⟩
set_option maxHeartbeats 4000000 in
set_option maxRecDepth 1000000 in
theorem symR (k : Nat) (L : Lay P k) (FG : P.funcs[91]? = some Tryz.f91) (enc : α → List Value) (cf : α → α → Int) {lt : α → α → Bool} (hS : SWO lt) (g : Nat) (cb : Array Value) (blk off cap a m : Nat) (d0 d : Array α) (w0 w : World)
    (eg : ∀ args w, (callFunc g args).run P w = .ok (.enter g args) w) (hcmp : CmpLays P g cb enc k cf blk off d.size w0)
    (R : RowK enc k w0 blk off d0) (hs : d0.size = d.size) (S : SWK enc k w0 blk off d w) (ham : a + 1 < m) (hb : m + 1 ≤ d.size) (hsz : d.size < 4611686018427387904) (hSt : SortedIn lt a m d) (hX : ∀ y, a ≤ y → y < m → lt d[m]! d[y]! = ltOf cf d[m]! d[y]!) :
    Calls P 91 #[.slice (some ⟨blk, off, none⟩) d.size cap, .int .i64 a, .int .i64 m, .int .i64 ((m : Int) + 1), .func (.func g) #[] cb] w fun e w' => e = .returned (.tuple #[]) ∧ ∃ d', PermIn a (m + 1) d d' ∧ SortedIn lt a (m + 1) d' ∧ SWK enc k w0 blk off d' w' := by
  have mixed := L.mixed; have t0 := L.t0; have a0 := L.a0; have z0 := L.z0; have v0 := L.v0; have t3 := L.t3; have a3 := L.a3; have z3 := L.z3; have v3 := L.v3; have t4 := L.t4; have a4 := L.a4; have z4 := L.z4; have v4 := L.v4; have tU := L.tU; have aU := L.aU; have zU := L.zU; have vU := L.vU; have tS := L.tS; have aS := L.aS; have zS := L.zS; have vS := L.vS; have tF := L.tF; have aF := L.aF; have zF := L.zF; have vF := L.vF; have aE := L.aE; have zE := L.zE
  have HC : Aside _ := hcmp
  have S0 : Aside (SWK enc k w0 blk off d w) := S
  have SW : Aside (SWO lt) := hS
  have ST : Aside _ := hSt
  have HX : Aside _ := hX
  clear S hS hSt hcmp hX
  have e1 : (m : Int) + 1 - (m : Int) = 1 := by omega
  have e2 : ¬ (m : Int) - (a : Int) = 1 := by omega
  have e3 : (((m : Int) - (a : Int)) == 1) = false := by rw [beq_eq_false_iff_ne]; exact e2
  go_enter FG, Tryz.ntmps91
  go_wp2_with fail
  go_loopg [14, 15] (m - a) (fun kx s14 s15 wr => ∃ (i j : Nat), s14 = .int .i64 i ∧ s15 = .int .i64 j ∧ a ≤ i ∧ i ≤ j ∧ j ≤ m ∧ j - i ≤ kx ∧ Aside (SWK enc k w0 blk off d wr) ∧ Hid (∀ x, a ≤ x → x < i → lt d[m]! d[x]! = false) ∧ Hid (∀ x, j ≤ x → x < m → lt d[m]! d[x]! = true))
  case atStart => exact ⟨a, m, rfl, rfl, by omega, by omega, by omega, by omega, S0, fun x h1 h2 => by omega, fun x h1 h2 => by omega⟩
  case round =>
    clear S0
    obtain ⟨i, j, rfl, rfl, hi0, hijl, hjb, hkx, S1, HL, HR⟩ := hrel
    by_cases hij : i < j
    · have hijz : (i : Int) < (j : Int) := by omega
      obtain ⟨h, hh⟩ : ∃ h, h = (i + j) / 2 := ⟨_, rfl⟩
      have hh1 : i ≤ h := by omega
      have hh2 : h < j := by omega
      go_wp2_with fail
      have ehz : ((i : Int) + (j : Int)) / 2 = (h : Int) := by omega
      simp only [ehz]
      clear ehz hh
      cases hG : lt d[m]! d[h]! with
      | true =>
        have HR2 : Hid (∀ x, h ≤ x → x < m → lt d[m]! d[x]! = true) := fun x h1 h2 => lt_le SW.out hG (sorted_le SW.out ST.out (by omega) h1 h2)
        have ea24 : (((m : Int) : Int)).toNat = m := by omega
        have pa24 : (0 : Int) ≤ (m : Int) := by omega
        have ba24 : (m : Int) < (d.size : Int) := by omega
        have ra24 : IntKind.i64.wrap ((m : Int)) = (m : Int) := by rw [IntKind.wrap_i64]; omega
        have ec24 : (((h : Int) : Int)).toNat = h := by omega
        have pc24 : (0 : Int) ≤ (h : Int) := by omega
        have bc24 : (h : Int) < (d.size : Int) := by omega
        have rc24 : IntKind.i64.wrap ((h : Int)) = (h : Int) := by rw [IntKind.wrap_i64]; omega
        obtain ⟨x24, hx24⟩ : ∃ x, x = d[m]! := ⟨_, rfl⟩
        obtain ⟨y24, hy24⟩ : ∃ x, x = d[h]! := ⟨_, rfl⟩
        have l24a := S1.out.ld R (by omega) P (m) (by omega)
        have l24b := S1.out.ld R (by omega) P (h) (by omega)
        rw [← hx24] at l24a
        rw [← hy24] at l24b
        have hc24 := S1.out.cmp HC.out (by omega) x24 y24
        have hv24 : cf x24 y24 < 0 := by rw [hx24, hy24]; exact of_decide_eq_true ((HX.out h (by omega) (by omega)).symm.trans hG)
        have hd24 : decide (cf x24 y24 < 0) = true := decide_eq_true hv24
        clear hx24 hy24
        go_wp2_with fail
        go_quiet_grown (first | (go_at_fn g; refine Calls.grown_of (hc24 _ _)))
        have S2 : Aside (SWK enc k w0 blk off d (grow (wr.drewN nq) osq)) := S1.out.grown nq osq
        clear l24a l24b hc24 S1
        generalize grow (wr.drewN nq) osq = w2 at S2 ⊢
        clear nq osq
        go_wp2
        go_roundg (h - i)
        case measure => omega
        case rel => exact ⟨i, h, rfl, rfl, hi0, hh1, by omega, Nat.le_refl _, S2, HL, HR2⟩
      | false =>
        have HL2 : Hid (∀ x, a ≤ x → x < h + 1 → lt d[m]! d[x]! = false) := fun x h1 h2 => SW.out.ntrans _ _ _ hG (sorted_le SW.out ST.out h1 (Nat.le_of_lt_succ h2) (by omega))
        have ea25 : (((m : Int) : Int)).toNat = m := by omega
        have pa25 : (0 : Int) ≤ (m : Int) := by omega
        have ba25 : (m : Int) < (d.size : Int) := by omega
        have ra25 : IntKind.i64.wrap ((m : Int)) = (m : Int) := by rw [IntKind.wrap_i64]; omega
        have ec25 : (((h : Int) : Int)).toNat = h := by omega
        have pc25 : (0 : Int) ≤ (h : Int) := by omega
        have bc25 : (h : Int) < (d.size : Int) := by omega
        have rc25 : IntKind.i64.wrap ((h : Int)) = (h : Int) := by rw [IntKind.wrap_i64]; omega
        obtain ⟨x25, hx25⟩ : ∃ x, x = d[m]! := ⟨_, rfl⟩
        obtain ⟨y25, hy25⟩ : ∃ x, x = d[h]! := ⟨_, rfl⟩
        have l25a := S1.out.ld R (by omega) P (m) (by omega)
        have l25b := S1.out.ld R (by omega) P (h) (by omega)
        rw [← hx25] at l25a
        rw [← hy25] at l25b
        have hc25 := S1.out.cmp HC.out (by omega) x25 y25
        have hv25 : ¬ cf x25 y25 < 0 := by rw [hx25, hy25]; exact of_decide_eq_false ((HX.out h (by omega) (by omega)).symm.trans hG)
        have hd25 : decide (cf x25 y25 < 0) = false := decide_eq_false hv25
        clear hx25 hy25
        go_wp2_with fail
        go_quiet_grown (first | (go_at_fn g; refine Calls.grown_of (hc25 _ _)))
        have S2 : Aside (SWK enc k w0 blk off d (grow (wr.drewN nq) osq)) := S1.out.grown nq osq
        clear l25a l25b hc25 S1
        generalize grow (wr.drewN nq) osq = w2 at S2 ⊢
        clear nq osq
        go_wp2
        go_roundg (j - (h + 1))
        case measure => omega
        case rel => exact ⟨h + 1, j, by go_num, rfl, by omega, by omega, hjb, Nat.le_refl _, S2, HL2, HR⟩
    · have hijz : ¬ (i : Int) < (j : Int) := by omega
      obtain rfl : i = j := by omega
      have FIN : Aside (SortedIn lt a (m + 1) (shiftDn d m (m - i))) := merge_one_right SW.out hb hi0 hjb ST.out HL.out HR.out
      have PRM : Aside (PermIn a (m + 1) d (shiftDn d m (m - i))) := shiftDn_perm d hb (by omega) _ (by omega)
      clear HL HR hijz
      go_wp2
      go_loopg [17] (m - a) (fun kx s17 wr2 => ∃ (q : Nat), s17 = .int .i64 ((m : Int) - q) ∧ q ≤ m - i ∧ m - i - q ≤ kx ∧ Aside (SWK enc k w0 blk off (shiftDn d m q) wr2))
      case atStart => exact ⟨0, by simp, by omega, by omega, S1⟩
      case round =>
        clear S1
        obtain ⟨q, rfl, hq, hkx2, S1⟩ := hrel
        obtain ⟨dk, hdk⟩ : ∃ dk, dk = shiftDn d m q := ⟨_, rfl⟩
        have hds : dk.size = d.size := by rw [hdk, shiftDn_size]
        rw [← hdk] at S1
        have HDK : Hid (dk = shiftDn d m q) := hdk
        clear hdk
        by_cases hlt : q < m - i
        · have hltz : (i : Int) < (m : Int) - (q : Int) := by omega
          go_wp2_with fail
          have ea26 : (((m : Int) - (q : Int) : Int)).toNat = m - q := by omega
          have pa26 : (0 : Int) ≤ (m : Int) - (q : Int) := by omega
          have ba26 : (m : Int) - (q : Int) < (d.size : Int) := by omega
          have ra26 : IntKind.i64.wrap ((m : Int) - (q : Int)) = (m : Int) - (q : Int) := by rw [IntKind.wrap_i64]; omega
          have ec26 : (((m : Int) - (q : Int) - 1 : Int)).toNat = m - q - 1 := by omega
          have pc26 : (0 : Int) ≤ (m : Int) - (q : Int) - 1 := by omega
          have bc26 : (m : Int) - (q : Int) - 1 < (d.size : Int) := by omega
          have rc26 : IntKind.i64.wrap ((m : Int) - (q : Int) - 1) = (m : Int) - (q : Int) - 1 := by rw [IntKind.wrap_i64]; omega
          have S2 : Aside (SWK enc k w0 blk off (swp dk (m - q) (m - q - 1)) ((wr.drew.setCells blk (off + (m - q) * k) (enc dk[m - q - 1]!)).setCells blk (off + (m - q - 1) * k) (enc dk[m - q]!))) := S1.out.swapped R (m - q) (m - q - 1) (by omega) (by omega)
          have l26a := S1.out.ld1 R (by omega) P (m - q) (by omega)
          have l26b := S1.out.ld1 R (by omega) P (m - q - 1) (by omega)
          have s26a := S1.out.st1 R (by omega) P (m - q) (by omega) dk[m - q - 1]!
          have s26b := S1.out.st2 R (by omega) P (m - q) (m - q - 1) (by omega) (by omega) dk[m - q - 1]! dk[m - q]!
          have n26a : (enc dk[m - q]!).length = k := R.hk _
          have n26b : (enc dk[m - q - 1]!).length = k := R.hk _
          generalize enc dk[m - q]! = cI26 at S2 l26a s26b n26a
          generalize enc dk[m - q - 1]! = cJ26 at S2 l26b s26a s26b n26b
          clear S1
          go_wp2_with fail
          go_big_region_o
          clear l26a l26b s26a s26b
          generalize (wr.drew.setCells blk (off + (m - q) * k) cJ26).setCells blk (off + (m - q - 1) * k) cI26 = w2 at S2 ⊢
          go_wp2
          go_roundg (m - i - (q + 1))
          case measure => omega
          case rel => exact ⟨q + 1, by congr 1 <;> omega, by omega, Nat.le_refl _, by rw [shiftDn, ← HDK.out]; exact S2⟩
        · have hltz : ¬ (i : Int) < (m : Int) - (q : Int) := by omega
          go_wp2
          (try simp only [Exit.inBlock, Exit.then]); refine bodyPost_ret (results_none rfl _ _ _) rfl ?_
          have eq : q = m - i := by omega
          subst eq
          exact ⟨rfl, _, PRM.out, FIN.out, by rw [← HDK.out]; exact S1.out⟩
end St
end Go.Proofs.YtemenlcigengeaaGreatDoor
