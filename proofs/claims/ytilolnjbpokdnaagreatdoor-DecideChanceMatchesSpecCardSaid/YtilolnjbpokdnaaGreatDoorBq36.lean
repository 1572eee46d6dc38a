/- chances of package decide. -/
import Derived.Test.YtilolnjbpokdnaaGreatDoorBq35
namespace Go.Proofs.YtilolnjbpokdnaaGreatDoor
open Go.RowKit
namespace Ch
open _root_.Go.Proofs.YtilolnjbpokdnaaGreatDoor.Nm
def _root_.Go.Proofs.YtilolnjbpokdnaaGreatDoor.TP.xr (q : Rat) : TP := ⟨fun w v => XR w v q, fun _ _ _ hb h => h.ext hb⟩
def unitQ : Rat := ((1000000 : Int) : Rat)⁻¹
def many (n : Nat) : Rat := ((n : Int) : Rat) * unitQ
theorem unit_fit : Fit 1000000 1 unitQ := ⟨by decide, 1, by decide, by unfold unitQ; rw [Rat.inv_def]; rfl⟩
theorem many_fit {n : Nat} (h : n ≤ 1000000) : Fit 1000000 1000000 (many n) := by
  have := (Fit.int h).mul unit_fit
  simp only [Nat.one_mul, Nat.mul_one] at this
  exact this
theorem sz_of {D M : Nat} {q : Rat} (h : Fit D M q) (h1 : D ≤ BB ^ 9) (h2 : M ≤ BB ^ 9) : Sz q := by
  obtain ⟨g1, g2⟩ := h.bound
  constructor
  · have : wlen q.num.natAbs ≤ 20 := wlen_le (Nat.lt_of_le_of_lt (Nat.le_trans g1 h2) (by decide))
    omega
  · have : wlen q.den ≤ 20 := wlen_le (Nat.lt_of_le_of_lt (Nat.le_trans g2 h1) (by decide))
    omega
theorem sizes {k : Nat} (hk : k ≤ 7) {fq : Rat} (hf : Fit (1000000 ^ k) (BB ^ k) fq) {M : Nat} (hM : M ≤ 1000000) : Sz fq ∧ Sz ((M : Int) : Rat) ∧ Sz (fq * ((M : Int) : Rat)) ∧ Sz unitQ := by
  have e1 : 1000000 ^ k ≤ BB ^ 9 := Nat.le_trans (Nat.pow_le_pow_left (by decide) k) (Nat.pow_le_pow_right (by decide) (by omega))
  have e2 : BB ^ k ≤ BB ^ 9 := Nat.pow_le_pow_right (by decide) (by omega)
  have e3 : BB ^ k * 1000000 ≤ BB ^ 9 := by
    have h1 : BB ^ (k + 1) ≤ BB ^ 9 := Nat.pow_le_pow_right (by decide) (by omega)
    have h2 : BB ^ k * 1000000 ≤ BB ^ k * BB := Nat.mul_le_mul_left _ (by decide)
    rw [Nat.pow_succ] at h1
    exact Nat.le_trans h2 h1
  have hm := hf.mul (Fit.int hM)
  rw [Nat.mul_one] at hm
  exact ⟨sz_of hf e1 e2, sz_of (Fit.int hM) (by decide) (by decide), sz_of hm e1 e3, sz_of unit_fit (by decide) (by decide)⟩
theorem sizes2 {dec : Pt → Bool} {k : Nat} (hk : k ≤ 7) {s fq : Rat} (hs : Fit (1000000 ^ k) (BB ^ k) s) (hf : Fit (1000000 ^ k) (BB ^ k) fq) {M : Nat} (hM : M ≤ 1000000) {C : List (Pt × Rat)} (hC : ∀ c ∈ C, Fit (1000000 ^ (k + 1)) (BB ^ k * 1000000) c.2) (hl : C.length ≤ 19683) :
    Sz (s + dec_ dec C) ∧ Sz (fq * many M) ∧ ∀ t, Sz (at_ C t) := by
  refine ⟨Fit.sz (by omega) (dec_fit hs hC hl), ?_, fun t => Fit.sz (by omega) (at_fit hC hl t)⟩
  have e1 : 1000000 ^ k * 1000000 ≤ BB ^ 9 := by
    rw [← Nat.pow_succ]
    exact Nat.le_trans (Nat.pow_le_pow_left (by decide) _) (Nat.pow_le_pow_right (by decide) (by omega))
  have e3 : BB ^ k * 1000000 ≤ BB ^ 9 := by
    have h1 : BB ^ (k + 1) ≤ BB ^ 9 := Nat.pow_le_pow_right (by decide) (by omega)
    have h2 : BB ^ k * 1000000 ≤ BB ^ k * BB := Nat.mul_le_mul_left _ (by decide)
    rw [Nat.pow_succ] at h1
    exact Nat.le_trans h2 h1
  exact sz_of (hf.mul (many_fit hM)) e1 e3
/-- how many of a million pairs are up, down, even -/
def upN (z o : Nat) : Nat := o * (1000 - z)
def downN (z o : Nat) : Nat := z * (1000 - o)
def evenN (z o : Nat) : Nat := 1000000 - upN z o - downN z o
theorem upN_int {z o : Nat} (hz : z ≤ 1000) : ((upN z o : Nat) : Int) = (o : Int) * (1000 - (z : Int)) := by
  unfold upN; rw [Int.natCast_mul, Int.natCast_sub hz]; rfl
theorem even_int {z o : Nat} (hz : z ≤ 1000) (ho : o ≤ 1000) : upN z o + downN z o ≤ 1000000 := by
  have h1 : (1000000 : Int) - (o : Int) * (1000 - (z : Int)) - (z : Int) * (1000 - (o : Int)) = (1000 - (o : Int)) * (1000 - (z : Int)) + (o : Int) * (z : Int) := by grind
  have h2 : (0 : Int) ≤ (1000 - (o : Int)) * (1000 - (z : Int)) := Int.mul_nonneg (by omega) (by omega)
  have h3 : (0 : Int) ≤ (o : Int) * (z : Int) := Int.mul_nonneg (by omega) (by omega)
  have e1 := upN_int (z := z) (o := o) hz
  have e2 : ((downN z o : Nat) : Int) = (z : Int) * (1000 - (o : Int)) := upN_int (z := o) (o := z) ho
  omega
def decP (d : Int) (bets : Nat) (q : Rat) (t : Pt) : Bool := decB d bets q t.1 t.2
/-- the chances after k pairs, n bounding all -/
def chQ (d : Int) (bets : Nat) (q : Rat) (n z o k : Nat) : Rat := chS (decP d bets q) (many (upN z o)) (many (downN z o)) (many (evenN z o)) n k
def ChPost (w : World) (d : Int) (bets : Nat) (q : Rat) (n z o : Nat) (e : Ending) (w' : World) : Prop :=
  ∃ (a : Option Addr) (cap : Nat) (ts : List X3), e = .returned (.slice a (n + 1) cap) ∧ Sl w' (.slice a (n + 1) cap) (n + 1) (ts.flatMap x3L) ∧ ts.length = n + 1 ∧ (∀ (i : Nat) (t : X3), ts[i]? = some t → XR w' (x3V t) (chQ d bets q n z o i)) ∧ Below w.heap.size w w'
set_option maxRecDepth 100000 in
set_option maxHeartbeats 16000000 in
theorem chances_at (d : Int) (bets : Nat) (q : Rat) (b : Bool) (a1 : Option Addr) (n1 c1 : Nat) (a2 : Option Addr) (n2 c2 : Nat) (w : World) (hB : Bett w d bets q b a1 n1 c1 a2 n2 c2) (pairs zer one : Nat) (hp : pairs ≤ 8) (hz : zer ≤ 1000) (ho : one ≤ 1000) :
    Calls Tryz.prog 64 #[.agg (betA d bets b a1 n1 c1 a2 n2 c2), .int .i64 (pairs : Int), .int .i64 (zer : Int), .int .i64 (one : Int)] w (ChPost w d bets q pairs zer one) := by
  have hU := upN_int (z := zer) (o := one) hz
  have hV : ((downN zer one : Nat) : Int) = (zer : Int) * (1000 - (one : Int)) := upN_int (z := one) (o := zer) ho
  have hUV := even_int hz ho
  have HPO : ∀ e w', (∃ (a : Option Addr) (cap : Nat) (ts : List X3), e = .returned (.slice a (pairs + 1) cap) ∧ Sl w' (.slice a (pairs + 1) cap) (pairs + 1) (ts.flatMap x3L) ∧ ts.length = pairs + 1 ∧ (∀ (i : Nat) (t : X3), ts[i]? = some t → XR w' (x3V t) (chS (decP d bets q) (many (upN zer one)) (many (downN zer one)) (many (evenN zer one)) pairs i)) ∧ Below w.heap.size w w') → ChPost w d bets q pairs zer one e w' := fun e w' h => h
  have hE : ((evenN zer one : Nat) : Int) = 1000000 - ((upN zer one : Nat) : Int) - ((downN zer one : Nat) : Int) := by unfold evenN; omega
  have hE' : evenN zer one ≤ 1000000 := by unfold evenN; omega
  generalize ChPost w d bets q pairs zer one = POST at HPO ⊢
  generalize upN zer one = U at *
  generalize downN zer one = V at *
  generalize evenN zer one = E at *
  have HP := Lib.hid HPO
  have hFU := many_fit (n := U) (by omega)
  have hFV := many_fit (n := V) (by omega)
  have hFE := many_fit (n := E) hE'
  have HFIT := Lib.hid (fun k => ch_fit (dec := decP d bets q) (n := pairs) hFU hFV hFE hp k)
  have HCF := Lib.hid (fun (f : Pt → Rat) k (hf : ∀ a, Fit (1000000 ^ k) (BB ^ k) (f a)) l => flat_fit hFU hFV hFE hf l)
  obtain ⟨DEC, HDEC⟩ : ∃ D, Hid (decP d bets q = D) := ⟨_, rfl⟩
  have HB := Lib.hid hB
  clear HPO hFU hFV hFE hB
  have p1 : (0 : Int) ≤ (one : Int) * (1000 - (zer : Int)) := by omega
  have p2 : (one : Int) * (1000 - (zer : Int)) ≤ 1000000 := by omega
  have p3 : (0 : Int) ≤ (zer : Int) * (1000 - (one : Int)) := by omega
  have p4 : (zer : Int) * (1000 - (one : Int)) ≤ 1000000 := by omega
  go_enter Tryz.func64, Tryz.ntmps64
  go_upto_region 1 with (fail)
  refine wp_box1 fun W0 hsz0 hb0 hX0 => ?_
  clear hsz0
  go_upto_region 4 with (fail)
  rw [← hU, ← hV, ← hE]
  clear hU hV hE p1 p2 p3 p4
  go_wp2_with fail
  refine (whole_at 1000000 (by decide) (by decide) _).mono ?_
  rintro e w1 ⟨v1, rfl, hx1, hb1⟩
  go_wp2_with fail
  refine (turned_at _ v1 _ hx1 (by decide)).mono ?_
  rintro e w2 ⟨v2, rfl, hx2, hb2⟩
  obtain ⟨tu, rfl, hx2⟩ := XR.x3 hx2
  rw [show ((1000000 : Int) : Rat)⁻¹ = unitQ from rfl] at hx2
  have hbw2 := ext_trans hb0 (ext_trans hb1 hb2)
  have hX2 := (hX0.ext hb1).ext hb2
  clear hx1 hb0 hb1 hb2 hX0
  go_upto_region 5 with (fail)
  refine wp_box1 fun W3 hsz3 hb3 hX3 => ?_
  clear hsz3
  have hbw3 := ext_trans hbw2 hb3
  have hX3b := hX2.ext hb3
  have hx3 := hx2.ext hb3
  have hlu : w.heap.size < w2.heap.size := hX2.1
  clear hx2 hX2 hbw2 hb3
  generalize w2.heap.size = bu at hX3 hlu ⊢
  have hmm := @run_makeMap Tryz.prog
  go_wp2_with fail
  clear hmm
  have hm4 := MapIs.made ptV (id : Value → Value) W3
  have f4 : Fr (fun k => k = W3.heap.size) W3 (W3.alloc (.map #[] 0)) := Fr.ext (ext_alloc _ _)
  generalize W3.alloc (.map #[] 0) = W4 at hm4 f4 ⊢
  refine (whole_at 1 (by decide) (by decide) W4).mono ?_
  rintro e w5 ⟨v5, rfl, hx5, hb5⟩
  obtain ⟨t5, rfl, hx5⟩ := XR.x3 hx5
  have hm5 := hm4.ext hb5
  have f5 := f4.trans (Fr.ext hb5)
  clear hm4 f4 hb5
  go_upto_region 6 with (refine wpList_insert_a rfl _ _ _ 155 rfl pt_ok Tryz.underlying155 rfl hm5 (0, 0) rfl (x3V t5) rfl ?_; intro w6 hm6 ht6)
  have f6 := f5.trans (Fr.turned ht6 rfl)
  have hx6 := hx5.kp (Kp.turned ht6)
  have hX6 := f6.box hX3 (Nat.ne_of_lt hX3.1)
  have hX6b := f6.box hX3b (Nat.ne_of_lt hX3b.1)
  have hxu6 := f6.xr hx3
  have hbw6 : Below w.heap.size w w6 := hbw3.trans (f6.below hbw3.size (fun k hk => by rw [hk]; exact hbw3.size))
  have hlm : w.heap.size ≤ W3.heap.size := hbw3.size
  clear f5 ht6 hx5 hX3 hX3b hx3 hbw3 hm5 f6
  generalize W3.heap.size = m0 at hm6 hlm ⊢
  go_wp2_with fail
  refine (whole_at 0 (by decide) (by decide) _).mono ?_
  rintro e w7 ⟨v7, rfl, hx7, hb7⟩
  obtain ⟨t7, rfl, hx7⟩ := XR.x3 hx7
  go_upto_region 7 with (fail)
  refine wp_box1r fun W8 hsz8 hb8 hX8 hF8 => ?_
  clear hsz8
  have hb68 := ext_trans hb7 hb8
  have hx8 := hx7.ext hb8
  have hlb : bu < w7.heap.size := Nat.lt_of_lt_of_le hX6.1 hb7.size
  clear hx7 hb7 hb8
  generalize w7.heap.size = bs at hX8 hF8 hlb ⊢
  have x0 := hX8.2 0
  have x1 := hX8.2 1
  have x2 := hX8.2 2
  go_upto_region 8 with (fail)
  clear x0 x1 x2
  have hO9 := ownsRow_new W8 (x3C t7) 93 3 rfl
  have hB9 := Box.new W8 (x3C t7) 93
  have hb89 := ext_alloc W8 (.cells (x3C t7) 93)
  generalize W8.alloc (.cells (x3C t7) 93) = W9 at hO9 hB9 hb89 ⊢
  obtain ⟨base, hbase⟩ : ∃ n, n = W8.heap.size := ⟨_, rfl⟩
  have hb69 := ext_trans hb68 hb89
  obtain ⟨F, HF⟩ : ∃ F, Hid (F = chF DEC (many U) (many V) (many E) pairs) := ⟨_, rfl⟩
  obtain ⟨S, HS⟩ : ∃ S, Hid (S = chS DEC (many U) (many V) (many E) pairs) := ⟨_, rfl⟩
  have HR : Hid (R1 w W9 d bets q b a1 n1 c1 a2 n2 c2 bu bs base tu unitQ (F 0) S m0 [((0, 0), x3V t5)] (.slice (some ⟨W8.heap.size, 0, none⟩) 1 1) [t7] 0) := by
    have h : R1 w W9 d bets q b a1 n1 c1 a2 n2 c2 bu bs base tu unitQ (F 0) S m0 [((0, 0), x3V t5)] (.slice (some ⟨W8.heap.size, 0, none⟩) 1 1) [t7] 0 := by
      have hx0 : XR W9 (x3V t7) (S 0) := by rw [HS.out]; exact hx8.ext hb89
      refine ⟨ext_trans hbw6 hb69, hX6b.ext hb69, HB.out.ext (ext_trans hbw6 hb69), hX6.ext hb69, hxu6.ext hb69, ⟨⟨t7, hX8.ext hb89, hx0⟩, hF8.ext hX8 hb89⟩, ?_, ?_, ?_, rfl, ?_, hlu, hlb, ?_, ?_, hlm⟩
      · rw [HF.out]; exact Open.start _ _ _ _ _ (hm6.ext hb69) (hx6.ext hb69)
      · rw [hbase]; exact hO9
      · intro g hg j u hu
        cases hg
        rw [hB9.2 j] at hu
        exact x3_nw t7 j u hu
      · intro i t ht
        cases i with
        | zero => cases ht; exact hx0
        | succ i => simp at ht
      · rw [hbase]; exact hX8.1
      · rw [hbase]; exact hb89.size
    exact h
  clear hO9 hB9 hb89 hb69 hb68 hX8 hF8 hx8 hX6 hX6b hxu6 hm6 hx6 hbw6 hlb hlu hlm
  go_wp2_with fail
  go_loopw [14, 16, 56] (fun mo vo i wr => ∃ (k m : Nat) (l : List (Pt × Value)) (ts : List X3), k ≤ pairs ∧ i = .int .i64 k ∧ mo = .map (some m) ∧ Hid (R1 w wr d bets q b a1 n1 c1 a2 n2 c2 bu bs base tu unitQ (F k) S m l vo ts k)) (fun _ _ i _ => pairs - (intOf i).toNat)
  case atStart => exact ⟨0, m0, _, _, by omega, rfl, rfl, HR⟩
  case round =>
    clear HR hbase
    obtain ⟨k, m, l, ts, hk, rfl, rfl, HR⟩ := hrel
    by_cases hlt : k < pairs
    · have HOPN := Lib.hid HR.out.opn
      have hmm := @run_makeMap Tryz.prog
      go_upto_region 11 with (fail)
      clear hmm
      have hm1 := MapIs.made ptV (id : Value → Value) wr
      have hbm1 := ext_alloc wr (.map #[] 0)
      have hszm : (wr.alloc (.map #[] 0)).heap.size = wr.heap.size + 1 := by simp
      generalize wr.alloc (.map #[] 0) = W1 at hm1 hbm1 hszm ⊢
      have hmo1 := HOPN.out.map.ext hbm1
      go_upto_region 12 with (refine wpList_range_a rfl _ 155 rfl Tryz.underlying155 rfl hmo1 ?_; intro W2 hr2 hb12 hsz12)
      have hm2 := hm1.ext hb12
      have HR2 : Hid (Below wr.heap.size wr W2) := ext_trans hbm1 hb12
      have hit : W1.heap.size = wr.heap.size + 1 := hszm
      rw [hit] at hr2 hsz12 ⊢
      clear hm1 hbm1 hmo1 hb12 hszm hit
      have HRW : Hid (R1 w wr d bets q b a1 n1 c1 a2 n2 c2 bu bs base tu unitQ (F k) S m l u16 ts k) := HR
      have h0 : Hid (∃ ln, Next DEC W2 wr.heap.size [] ln) := ⟨[], Next.start DEC hm2⟩
      have hs0 : Hid (Sum W2 bs (S k + dec_ DEC [])) := by
        have : Sum W2 bs (S k + dec_ DEC []) := by rw [dec_nil, Rat.add_zero]; exact HR.out.sum.ext HR2.out
        exact this
      simp only [Act.put, zz5, zz6, zz7]
      obtain ⟨wo, rfl⟩ : ∃ z, z = wr := ⟨_, rfl⟩
      go_loopw [] (fun wx => ∃ (done ln : List (Pt × Value)), RangeIs ptV id wx m (wo.heap.size + 1) l done ∧ Hid (Next DEC wx wo.heap.size (outs (many U) (many V) (many E) (F k) done) ln) ∧ Hid (Sum wx bs (S k + dec_ DEC (outs (many U) (many V) (many E) (F k) done))) ∧ Hid (Fr (fun z => z = bs ∨ z = wo.heap.size ∨ z = wo.heap.size + 1) W2 wx)) (fun wx => l.length - seenN wx (wo.heap.size + 1))
      case atStart => exact ⟨[], [], hr2, (Next.start DEC hm2), hs0, (Fr.refl _ _)⟩
      case round =>
        clear hr2 hm2 h0 hs0
        obtain ⟨done, ln, hr, HN, HSU, HF2⟩ := hrel
        rcases hr.next (P := Tryz.prog) 0 with ⟨hnx, hperm⟩ | ⟨p, w3, hnx, hr3, hen, hc3, hf3, hs3, hb3, hbe3⟩
        · have hXR := HRW.out
          have hbs : bs < wo.heap.size := Nat.lt_of_lt_of_le hXR.l3 hXR.l4
          have hob : ∀ z, u16.ownBlock = some z → ¬ (z = bs ∨ z = wo.heap.size ∨ z = wo.heap.size + 1) := fun z hz => by
            have h := hXR.own.lt z hz
            have := hXR.l3
            omega
          have own1 := ownsRow_ext hXR.own HR2.out
          have own2 := HF2.out.owns own1 hob
          have rq2 := HF2.out.rowQ (hXR.rq.ext hXR.own HR2.out) own1 hob
          have hnd := Next.done HN.out HOPN.out hperm hk
          have hS1 := HSU.out
          rw [hnd.2] at hS1
          have eF : F (k + 1) = nextF DEC (many U) (many V) (many E) pairs (F k) := by rw [HF.out]; rfl
          have eS : S (k + 1) = S k + moreF DEC (many U) (many V) (many E) pairs (F k) := by rw [HS.out, HF.out]; rfl
          rw [← eS] at hS1
          have hO1 := hnd.1
          rw [← eF] at hO1
          have hszw : wo.heap.size + 2 ≤ wr.heap.size := by have := HF2.out.size; omega
          have HA := Lib.hid (And.intro own2 (And.intro rq2 (And.intro hS1 hO1)))
          have h16 : (k : Int) + 1 ≤ 8 := by omega
          obtain ⟨⟨tq, hB0, hX0⟩, hF0⟩ := hS1
          have s0 : wr.cell? ⟨bs, 0, none⟩ = some (.bool tq.b) := hB0.2 0
          have s1 : wr.cell? ⟨bs, 1, none⟩ = some (.slice tq.a1 tq.n1 tq.c1) := hB0.2 1
          have s2 : wr.cell? ⟨bs, 2, none⟩ = some (.slice tq.a2 tq.n2 tq.c2) := hB0.2 2
          have HQ := Lib.hid hX0
          have HI : Hid ((Tryz.prog.info? 93).map (fun i => (i.zero, i.size, i.bytes)) = some (some (.agg #[.bool false, .slice none 0 0, .slice none 0 0]), 3, 56)) := by
            have : (Tryz.prog.info? 93).map (fun i => (i.zero, i.size, i.bytes)) = some (some (.agg #[.bool false, .slice none 0 0, .slice none 0 0]), 3, 56) := by kernel_rfl
            exact this
          clear hXR own1 own2 rq2 hnd eF eS hO1 hB0 hX0 hF0 hob hsz12
          go_upto_region 29 with (refine wpList_next_run rfl _ rfl rfl hnx ?_)
          clear hnx
          go_wp2_with (at_builtin; refine wpList_append_q (fun u => isWord u = false) rfl _ _ 102 rfl base 93 Tryz.underlying102 HI.out rfl (by decide) rfl (ownsRow_ext HA.out.1 (ext_alloc _ _)) rfl (Sl.new _ (x3C tq) _ 1 1 (by omega) (by decide)) rfl (x3_one tq) ?c2 ?c3 ?c4 (HA.out.2.1.ext HA.out.1 (ext_alloc _ _)) ?c5 (x3_nw' tq) ?_; rotate_left 4; intro v' w' hown' hg' hv' hrq')
          case c2 => unfold maxLen; omega
          case c3 => omega
          case c4 =>
            have := HRW.out.l4
            simp; omega
          case c5 =>
            intro u hu
            simp [Value.cells] at hu
            rcases hu with rfl | rfl | rfl <;> rfl
          clear s0 s1 s2
          have fa : Fr (fun z => u16.ownBlock = some z) wr w' := (Fr.ext (ext_alloc _ _)).trans (Fr.grown hg' (HA.out.2.1.ext HA.out.1 (ext_alloc _ _)) (fun z hz => hz))
          clear hg' hv'
          go_roundw
          case rel =>
            refine ⟨k + 1, wo.heap.size, ln, ts ++ [tq], by omega, by go_num, rfl, ?_⟩
            have hXR := HRW.out
            have hbw := hXR.bet.1
            have hbu := hXR.un.1
            have hl1 := hXR.l1
            have hl2 := hXR.l2
            have hl3 := hXR.l3
            have hl4 := hXR.l4
            have hob : ∀ z, u16.ownBlock = some z → base ≤ z ∧ z < wo.heap.size := fun z hz => hXR.own.lt z hz
            have fT : Fr (fun z => z = bs ∨ z = wo.heap.size ∨ z = wo.heap.size + 1 ∨ u16.ownBlock = some z) wo w' := by
              refine (Fr.ext HR2.out).trans ?_
              exact (HF2.out.mono (fun z hz => hz.elim .inl (fun h => h.elim (fun h => .inr (.inl h)) (fun h => .inr (.inr (.inl h)))))).trans (fa.mono fun z hz => .inr (.inr (.inr hz)))
            have n1 : ∀ z, z < bs → ¬ (z = bs ∨ z = wo.heap.size ∨ z = wo.heap.size + 1 ∨ u16.ownBlock = some z) := fun z hz h => by
              rcases h with h | h | h | h
              · omega
              · omega
              · omega
              · have := hob z h; omega
            have hm1 : ¬ (u16.ownBlock = some wo.heap.size) := fun h => by have := hob _ h; omega
            have hb1 : ¬ (u16.ownBlock = some bs) := fun h => by have := hob _ h; omega
            have hSn := Sum.fr HA.out.2.2.1 fa hb1
            refine ⟨?_, fT.box hXR.bet (n1 _ (by omega)), Bett.kp hXR.bok fT.word, fT.box hXR.un (n1 _ (by omega)), fT.xr hXR.xu, hSn, ?_, ?_, hrq', ?_, ?_, hl1, hl2, hl3, ?_, ?_⟩
            · refine hXR.low.trans (fT.below hXR.low.size (fun z hz => ?_))
              rcases hz with h | h | h | h
              · omega
              · omega
              · omega
              · have := hob z h; omega
            · exact Open.fr HA.out.2.2.2 fa hm1
            · rw [List.flatMap_append]
              simpa [x3L] using hown'
            · rw [List.length_append, hXR.tl]; rfl
            · intro i t ht
              by_cases hi : i < ts.length
              · rw [List.getElem?_append_left hi] at ht
                exact fT.xr (hXR.tv i t ht)
              · have htl := hXR.tl
                have hlt := (List.getElem?_eq_some_iff.1 ht).1
                rw [List.length_append, List.length_singleton] at hlt
                obtain rfl : i = k + 1 := by omega
                rw [List.getElem?_append_right (by omega), htl] at ht
                simp at ht
                subst ht
                exact fa.xr HQ.out
            · have := fT.size; omega
            · omega
          case measure => simp [intOf]; omega
        · have hst : Stepped (wo.heap.size + 1) wr w3 := ⟨hc3, hf3, hs3, hb3, hbe3⟩
          clear hc3 hf3 hs3 hb3 hbe3
          have fs : Fr (fun z => z = wo.heap.size + 1) wr w3 := Fr.stepped hst rfl
          have hXR := HRW.out
          have hso : wo.heap.size + 2 = W2.heap.size := hsz12.symm
          have hW2 : W2.heap.size ≤ w3.heap.size := Nat.le_trans HF2.out.size fs.size
          have f3 : Fr (fun z => z = bs ∨ z = wo.heap.size ∨ z = wo.heap.size + 1) W2 w3 := HF2.out.trans (fs.mono (fun z hz => .inr (.inr hz)))
          have hbw := hXR.bet.1
          have hbu := hXR.un.1
          have hl1 := hXR.l1
          have hl2 := hXR.l2
          have hbs : bs < wo.heap.size := Nat.lt_of_lt_of_le hXR.l3 hXR.l4
          have hmlt := HOPN.out.map.lt
          have q1 : ¬ (w.heap.size = bs ∨ w.heap.size = wo.heap.size ∨ w.heap.size = wo.heap.size + 1) := by omega
          have q2 : ¬ (bu = bs ∨ bu = wo.heap.size ∨ bu = wo.heap.size + 1) := by omega
          have k1 := f3.box (hXR.bet.ext HR2.out) q1
          have k2 := Bett.kp (hXR.bok.ext HR2.out) f3.word
          have k3 := f3.box (hXR.un.ext HR2.out) q2
          have k4 := f3.xr (hXR.xu.ext HR2.out)
          have kN := Next.fr HN.out fs (by omega)
          have kS := HSU.out.fr fs (by omega)
          obtain ⟨⟨p1, p2⟩, pv⟩ := p
          obtain ⟨hpl1, rest, hpl2⟩ := hr3.len
          have hpl : ((p1, p2), pv) ∈ l := hpl2.mem_iff.1 (by simp)
          obtain ⟨hpx, hpk⟩ := HOPN.out.val _ hpl
          simp only at hpx hpk
          obtain ⟨tp, rfl, hxp0⟩ := XR.x3 hpx
          have k5 := f3.xr (hxp0.ext HR2.out)
          have hdl : done.length < l.length := by
            have := hpl2.length_eq
            simp at this; omega
          have hk8 : k ≤ 7 := by omega
          have hdl2 : 3 * (done.length + 1) ≤ 19683 := by
            have h1 := HOPN.out.len
            have h2 : 3 ^ k ≤ 3 ^ 7 := Nat.pow_le_pow_right (by omega) hk8
            have h3 : (3 : Nat) ^ 7 = 2187 := rfl
            omega
          have HKP := Lib.hid (And.intro hdl2 (And.intro hpk (And.intro hdl hk8)))
          have HFS := Lib.hid fs
          have HIN : Hid (¬ (m = bs ∨ m = wo.heap.size) ∧ ¬ (wo.heap.size + 1 = bs ∨ wo.heap.size + 1 = wo.heap.size)) := by
            have hmb : ¬ (m = bs ∨ m = wo.heap.size) ∧ ¬ (wo.heap.size + 1 = bs ∨ wo.heap.size + 1 = wo.heap.size) := by
              obtain ⟨⟨t0, hB0, _⟩, _⟩ := hXR.sum
              have h1 := hB0.ne_map (by simp) HOPN.out.map
              omega
            exact hmb
          have HSN : Hid (seenN wr (wo.heap.size + 1) = done.length) := RangeIs.seenN hr
          have HFK : Hid ((∀ a, Fit (1000000 ^ k) (BB ^ k) (F k a)) ∧ Fit (1000000 ^ k) (BB ^ k) (S k)) := by
            have : (∀ a, Fit (1000000 ^ k) (BB ^ k) (F k a)) ∧ Fit (1000000 ^ k) (BB ^ k) (S k) := by rw [HF.out, HS.out, ← HDEC.out]; exact HFIT.out k
            exact this
          clear hpx hpl hpl1 hpl2 hxp0 q1 q2 hdl hdl2 hXR fs
          go_upto_region 13 with (refine wpList_next_run rfl _ rfl rfl hnx ?_)
          go_upto_region 14 with (refine wpList_entry_a rfl _ rfl rfl hen ?_)
          have i1 : wo.heap.size + 2 ≤ w3.heap.size := by omega
          clear hso hsz12
          refine wp_box2 fun W4 hsz4 hb4 hX4a hX4b => ?_
          have i2 : w3.heap.size + 1 < W4.heap.size := by omega
          clear hsz4
          go_wp2_with fail
          refine wp_box1 fun W5 hsz5 hb5 hX5 => ?_
          have hb45 := ext_trans hb4 hb5
          have i3 := hX5.1
          have i4 : w3.heap.size < w3.heap.size + 1 := Nat.lt_succ_self _
          have j3 : R3 w W5 d bets q b a1 n1 c1 a2 n2 c2 bu w3.heap.size (w3.heap.size + 1) W4.heap.size tu tp unitQ (F k (p1, p2)) p1 p2 U V E := ⟨Nat.lt_of_lt_of_le k1.1 hb45.size, k1.ext hb45, k2.ext hb45, k3.ext hb45, k4.ext hb45, hX4a.ext hb5, hX4b.ext hb5, k5.ext hb45, hX5⟩
          have jN := kN.ext hb45
          have jS := kS.ext hb45
          have JF := Lib.hid (f3.trans (Fr.ext hb45))
          have JR := Lib.hid (hr3.ext hb45)
          rw [← part_zero (many U) (many V) (many E) (F k) done (p1, p2)] at jN jS
          have HJ0 := Lib.hid j3
          have HN0 := Lib.hid jN
          have HS0 := Lib.hid jS
          clear hb4 hX4a hX4b hsz5 hb5 hX5 hb45 j3 jN jS k1 k2 k3 k4 k5 kN kS f3 hr3 hen hnx hst hW2 hr HN HSU HF2
          generalize w3.heap.size + 1 = bp at *
          generalize w3.heap.size = bt at *
          generalize W4.heap.size = bl at *
          go_loopw [71] (fun iv wx => ∃ (j : Nat) (ln : List (Pt × Value)), (j = 0 ∧ iv = .int .i64 0 ∨ j = 1 ∧ iv = .int .i64 1 ∨ j = 2 ∧ iv = .int .i64 2 ∨ j = 3 ∧ iv = .int .i64 3) ∧ Hid (R3 w wx d bets q b a1 n1 c1 a2 n2 c2 bu bt bp bl tu tp unitQ (F k (p1, p2)) p1 p2 U V E) ∧ Hid (Next DEC wx wo.heap.size (part (many U) (many V) (many E) (F k) done (p1, p2) j) ln) ∧ Hid (Sum wx bs (S k + dec_ DEC (part (many U) (many V) (many E) (F k) done (p1, p2) j))) ∧ Hid (Fr (fun z => z = bs ∨ z = wo.heap.size) W5 wx)) (fun iv _ => 3 - (intOf iv).toNat)
          case atStart => exact ⟨0, ln, .inl ⟨rfl, rfl⟩, HJ0, HN0, HS0, Fr.refl _ _⟩
          case round =>
            clear HJ0 HN0 HS0
            obtain ⟨wx, rfl⟩ : ∃ z, z = wr := ⟨_, rfl⟩
            obtain ⟨j, ln, hj, HJ, HN, HSU, HF2⟩ := hrel
            have hp12 : p1 + p2 ≤ 7 := by have := HKP.out.2.1; omega
            rcases hj with ⟨rfl, rfl⟩ | ⟨rfl, rfl⟩ | ⟨rfl, rfl⟩ | ⟨rfl, rfl⟩
            · have xb0 : wx.cell? ⟨bt, 0, none⟩ = some (.int .i64 (p1 : Int)) := HJ.out.at_.2 0
              have xb1 : wx.cell? ⟨bt, 1, none⟩ = some (.int .i64 (p2 : Int)) := HJ.out.at_.2 1
              have xl : wx.cell? ⟨bl, 0, none⟩ = some (.int .i64 (U : Int)) := HJ.out.ls.2 0
              go_upto_region 18 with (fail)
              refine wp_box1r fun W6 hsz6 hb6 hX6 hF6 => ?_
              clear hsz6 xb0 xb1 xl
              have yj : W6.cell? ⟨wx.heap.size, 0, none⟩ = some (.int .i64 (p1 : Int)) := hX6.2 0
              have yf := hF6 0
              go_upto_region 20 with (fail)
              clear yj yf
              obtain ⟨Y, hY⟩ : ∃ Y, Y = W6.setCell ⟨wx.heap.size, 0, none⟩ (.int .i64 ((p1 : Int) + 1)) := ⟨_, rfl⟩
              rw [← hY]
              have hXY : Box Y wx.heap.size #[.int .i64 ((p1 + 1 : Nat) : Int), .int .i64 ((p2 : Nat) : Int)] := by
                rw [hY]
                have := box2_0 hX6 (.int .i64 ((p1 : Int) + 1))
                rw [show ((p1 : Int) + 1) = ((p1 + 1 : Nat) : Int) by omega] at this
                exact this
              have hbY : Below wx.heap.size wx Y := by rw [hY]; exact hb6.setCell (Nat.le_refl _) _
              clear hY hX6 hF6 hb6
              have hT : (p1 + 1) + (p2) ≤ 60 := by omega
              have HPT := Lib.hid (part_1 (many U) (many V) (many E) (F k) done p1 p2)
              generalize p1 + 1 = T1 at *
              have HJ2 := Lib.hid (HJ.out.ext hbY)
              have HN2 := Lib.hid (Next.ext HN.out hbY)
              have HS2 := Lib.hid (Sum.ext HSU.out hbY)
              have HFY := Lib.hid (HF2.out.trans (Fr.ext hbY))
              have HXY := Lib.hid hXY
              have hbt5 : W5.heap.size ≤ wx.heap.size := HF2.out.size
              have hbto : wo.heap.size + 2 ≤ wx.heap.size := by have := HF2.out.size; omega
              clear HJ HN HSU HF2 hbY hXY
              generalize wx.heap.size = bto at *
              obtain ⟨fq, HFQ⟩ : ∃ x, Hid (x = F k (p1, p2)) := ⟨_, rfl⟩
              have HXP : Hid (XR Y (x3V tp) fq) := by
                have : XR Y (x3V tp) fq := by rw [HFQ.out]; exact HJ2.out.xp
                exact this
              have HSZ := Lib.hid (sizes (M := U) (fq := fq) HKP.out.2.2.2 (by rw [HFQ.out]; exact HFK.out.1 _) (by omega))
              refine Grow.wp_region_grow 7 [TP.eq (x3V tp), TP.eq (.int .i64 (U : Int)), TP.xr ((U : Int) : Rat), TP.xr (fq * ((U : Int) : Rat)), TP.eq (x3V tu), TP.xr (fq * ((U : Int) : Rat) * unitQ), TP.new Y.heap.size zeroX] [[], [], [1], [0, 2], [], [3, 4], []] (by kernel_rfl) (by kernel_rfl) ⟨?o00, ?o10, ?o20, ?o30, ?o40, ?o50, ?o60, trivial⟩ ?_
              case o00 =>
                intro w' hb
                have h3 := HJ2.out.ext hb
                have x0 : w'.cell? ⟨bp, 0, none⟩ = some (.bool tp.b) := h3.pr.2 0
                have x1 : w'.cell? ⟨bp, 1, none⟩ = some (.slice tp.a1 tp.n1 tp.c1) := h3.pr.2 1
                have x2 : w'.cell? ⟨bp, 2, none⟩ = some (.slice tp.a2 tp.n2 tp.c2) := h3.pr.2 2
                clear h3
                show wpList _ _ _ _ _ _
                go_wp2
                exact ⟨rfl, Below.refl _ _, rfl⟩
              case o10 =>
                intro w' hb
                show wpList _ _ _ _ _ _
                go_wp2
                exact ⟨rfl, Below.refl _ _, rfl⟩
              case o20 =>
                intro w' hb v1 hv1
                obtain rfl : v1 = _ := hv1
                show wpList _ _ _ _ _ _
                simp only [Grow.dstOf, zz1, zz2, zz3, zz4, Act.put, zz5, zz6, zz7]
                go_wp2_with fail
                refine (whole_at (U : Int) (by omega) (by omega) _).mono ?_
                rintro e wz ⟨vz, rfl, hxz, hbz⟩
                go_wp2
                exact ⟨hxz, hbz, rfl⟩
              case o30 =>
                intro w' hb v1 hv1 v2 hv2
                obtain rfl : v1 = _ := hv1
                have hv2' : XR w' v2 ((U : Int) : Rat) := hv2
                clear hv2
                have hx := HXP.out.ext hb
                show wpList _ _ _ _ _ _
                simp only [Grow.dstOf, zz1, zz2, zz3, zz4, Act.put, zz5, zz6, zz7]
                go_wp2_with fail
                refine (xtimes_at _ _ _ _ _ hx hv2' HSZ.out.1.1 HSZ.out.1.2 HSZ.out.2.1.1 HSZ.out.2.1.2).mono ?_
                rintro e wz ⟨vz, rfl, hxz, hbz⟩
                go_wp2
                exact ⟨hxz, hbz, rfl⟩
              case o40 =>
                intro w' hb
                have h3 := HJ2.out.ext hb
                have x0 : w'.cell? ⟨bu, 0, none⟩ = some (.bool tu.b) := h3.un.2 0
                have x1 : w'.cell? ⟨bu, 1, none⟩ = some (.slice tu.a1 tu.n1 tu.c1) := h3.un.2 1
                have x2 : w'.cell? ⟨bu, 2, none⟩ = some (.slice tu.a2 tu.n2 tu.c2) := h3.un.2 2
                clear h3
                show wpList _ _ _ _ _ _
                go_wp2
                exact ⟨rfl, Below.refl _ _, rfl⟩
              case o50 =>
                intro w' hb v1 hv1 v2 hv2
                obtain rfl : v2 = _ := hv2
                have hv1' : XR w' v1 (fq * ((U : Int) : Rat)) := hv1
                clear hv1
                have hx := HJ2.out.xu.ext hb
                show wpList _ _ _ _ _ _
                simp only [Grow.dstOf, zz1, zz2, zz3, zz4, Act.put, zz5, zz6, zz7]
                go_wp2_with fail
                refine (xtimes_at _ _ _ _ _ hv1' hx HSZ.out.2.2.1.1 HSZ.out.2.2.1.2 HSZ.out.2.2.2.1 HSZ.out.2.2.2.2).mono ?_
                rintro e wz ⟨vz, rfl, hxz, hbz⟩
                go_wp2
                exact ⟨hxz, hbz, rfl⟩
              case o60 =>
                intro w' hb
                show wpList _ _ _ _ _ _
                go_wp2
                exact ⟨⟨_, rfl, hb.size, Box.new _ _ _, Fre.new _ _ _⟩, ext_alloc _ _, rfl⟩
              intro w7 hb7 v0 h0 v1 h1 v2 h2 v3 h3 v4 h4 v5 h5 v6 h6
              show wpList _ _ _ _ _ _
              simp only [Act.put, zz5, zz6, zz7]
              have g5 : XR w7 v5 (fq * ((U : Int) : Rat) * unitQ) := h5
              have g6 : ∃ g, v6 = .pointer (some ⟨g, 0, none⟩) ∧ Y.heap.size ≤ g ∧ Box w7 g zeroX ∧ Fre w7 g := h6
              clear h0 h1 h2 h3 h4 h5 h6
              obtain ⟨tq, rfl, hq⟩ := XR.x3 g5
              obtain ⟨g, rfl, hgY, hXg, hFg⟩ := g6
              rw [Rat.mul_assoc] at hq
              have hq' : XR w7 (x3V tq) (fq * many U) := hq
              have hgb : bto < g := Nat.lt_of_lt_of_le HXY.out.1 hgY
              obtain ⟨r0, r1, r2⟩ := boxX hXg
              have f0 := hFg 0
              have f1 := hFg 1
              have f2 := hFg 2
              clear g5 hq
              go_upto_region 21 with (fail)
              clear r0 r1 r2 f0 f1 f2
              obtain ⟨X, hX⟩ : ∃ X, X = ((w7.setCell ⟨g, 0, none⟩ (.bool tq.b)).setCell ⟨g, 1, none⟩ (.slice tq.a1 tq.n1 tq.c1)).setCell ⟨g, 2, none⟩ (.slice tq.a2 tq.n2 tq.c2) := ⟨_, rfl⟩
              rw [← hX]
              have b23 : Box X g (x3C tq) := by rw [hX]; exact box_set3 (t := ⟨false, none, 0, 0, none, 0, 0⟩) hXg tq
              have x23 : XR X (x3V tq) (fq * many U) := hq'.kp (by rw [hX]; exact Kp.set3 hXg zeroX_word _ _ _)
              have f23 : Fre X g := by rw [hX]; intro j; rw [frozen_set3]; exact hFg j
              have hbX : Below Y.heap.size Y X := by rw [hX]; exact ((hb7.setCell hgY _).setCell hgY _).setCell hgY _
              clear hX hXg hFg hq' hb7 hgY
              have hJ3 := HJ2.out.ext hbX
              have hN3 := Next.ext HN2.out hbX
              have hS3 := Sum.ext HS2.out hbX
              have hF3 := HFY.out.trans (Fr.ext hbX)
              have hXY3 := HXY.out.ext hbX
              clear hbX HJ2 HN2 HS2 HFY HXY HXP HSZ
              have y0 : X.cell? ⟨w.heap.size, 0, none⟩ = some (.int .i64 d) := hJ3.bet.2 0
              have y1 : X.cell? ⟨w.heap.size, 1, none⟩ = some (.int .i64 (bets : Int)) := hJ3.bet.2 1
              have y2 : X.cell? ⟨w.heap.size, 2, none⟩ = some (.bool b) := hJ3.bet.2 2
              have y3 : X.cell? ⟨w.heap.size, 3, none⟩ = some (.slice a1 n1 c1) := hJ3.bet.2 3
              have y4 : X.cell? ⟨w.heap.size, 4, none⟩ = some (.slice a2 n2 c2) := hJ3.bet.2 4
              have z0 : X.cell? ⟨bto, 0, none⟩ = some (.int .i64 (T1 : Int)) := hXY3.2 0
              have z1 : X.cell? ⟨bto, 1, none⟩ = some (.int .i64 (p2 : Int)) := hXY3.2 1
              have HDC := Lib.hid (decides_at d bets T1 p2 q hT b a1 n1 c1 a2 n2 c2 X hJ3.bok)
              have HJ3 := Lib.hid hJ3
              have HN3 := Lib.hid hN3
              have HS3 := Lib.hid hS3
              have HF3 := Lib.hid hF3
              have HX3 := Lib.hid hXY3
              have HG3 := Lib.hid (And.intro b23 (And.intro x23 f23))
              clear hJ3 hN3 hS3 hF3 hXY3 b23 x23 f23
              go_wp2_with fail
              refine HDC.out.mono ?_
              rintro e wd ⟨rfl, hbd⟩
              clear y0 y1 y2 y3 y4 z0 z1 HDC
              have hJ4 := HJ3.out.ext hbd
              have hN4 := Next.ext HN3.out hbd
              have hS4 := Sum.ext HS3.out hbd
              have hF4 := HF3.out.trans (Fr.ext hbd)
              have hX4 := HX3.out.ext hbd
              have hB4 := HG3.out.1.ext hbd
              have hQ4 := HG3.out.2.1.ext hbd
              have hE4 := HG3.out.2.2.ext HG3.out.1 hbd
              clear hbd HJ3 HN3 HS3 HF3 HX3 HG3
              have HZ := Lib.hid (sizes2 (dec := DEC) (s := S k) (C := part (many U) (many V) (many E) (F k) done (p1, p2) 0) (M := U) (fq := fq) HKP.out.2.2.2 HFK.out.2 (by rw [HFQ.out]; exact HFK.out.1 _) (by omega) (fun c hc => HCF.out (F k) k HFK.out.1 _ c (part_mem c hc)) (Nat.le_trans part_len HKP.out.1))
              have hg1 : g < wd.heap.size := hB4.1
              have hb1 : bto < wd.heap.size := hX4.1
              rw [HFQ.out.symm] at HPT
              cases hdv : decB d bets q T1 p2
              · have HD : Hid (DEC (T1, p2) = false) := by rw [← HDEC.out]; exact hdv
                clear hdv
                have u0 : wd.cell? ⟨bto, 0, none⟩ = some (.int .i64 (T1 : Int)) := hX4.2 0
                have u1 : wd.cell? ⟨bto, 1, none⟩ = some (.int .i64 (p2 : Int)) := hX4.2 1
                have HNM := Lib.hid hN4.map
                have H5 := Lib.hid (And.intro hJ4 (And.intro hN4 (And.intro hS4 (And.intro hF4 (And.intro hX4 (And.intro hB4 (And.intro hQ4 hE4)))))))
                clear hJ4 hN4 hS4 hF4 hX4 hB4 hQ4 hE4
                cases hlk : look ln (T1, p2) with
                | none =>
                  have HAT : Hid (at_ (part (many U) (many V) (many E) (F k) done (p1, p2) 0) (T1, p2) = 0) := Next.none H5.out.2.1 HD.out hlk
                  go_upto_region 24 with (refine wpList_lookup_miss rfl _ _ 155 rfl pt_ok Tryz.underlying155 (zero_xr _) rfl HNM.out (T1, p2) rfl hlk ?_)
                  clear u0 u1 HNM hlk
                  refine wp_box1 fun W9 hsz9 hb9 hX9 => ?_
                  clear hsz9 hX9
                  have HJ9 := Lib.hid (H5.out.1.ext hb9)
                  have HN9 := Lib.hid (Next.ext H5.out.2.1 hb9)
                  have HS9 := Lib.hid (Sum.ext H5.out.2.2.1 hb9)
                  have HFF9 := Lib.hid (H5.out.2.2.2.1.trans (Fr.ext hb9))
                  have HX9 := Lib.hid (H5.out.2.2.2.2.1.ext hb9)
                  have HB9 := Lib.hid (H5.out.2.2.2.2.2.1.ext hb9)
                  have HQ9 : Hid (XR W9 (x3V tq) (at_ (part (many U) (many V) (many E) (F k) done (p1, p2) 0) (T1, p2) + fq * many U)) := by
                    have : XR W9 (x3V tq) (at_ (part (many U) (many V) (many E) (F k) done (p1, p2) 0) (T1, p2) + fq * many U) := by
                      rw [HAT.out, Rat.zero_add]; exact H5.out.2.2.2.2.2.2.1.ext hb9
                    exact this
                  clear H5 hb9 HAT
                  have u0 : W9.cell? ⟨bto, 0, none⟩ = some (.int .i64 (T1 : Int)) := HX9.out.2 0
                  have u1 : W9.cell? ⟨bto, 1, none⟩ = some (.int .i64 (p2 : Int)) := HX9.out.2 1
                  have g0 : W9.cell? ⟨g, 0, none⟩ = some (.bool tq.b) := HB9.out.2 0
                  have g1 : W9.cell? ⟨g, 1, none⟩ = some (.slice tq.a1 tq.n1 tq.c1) := HB9.out.2 1
                  have g2 : W9.cell? ⟨g, 2, none⟩ = some (.slice tq.a2 tq.n2 tq.c2) := HB9.out.2 2
                  go_wp2_with (refine wpList_update_a rfl _ _ _ 155 rfl pt_ok Tryz.underlying155 rfl HN9.out.map (T1, p2) rfl (x3V tq) rfl ?_; intro wu hmu htu)
                  clear u0 u1 g0 g1 g2
                  have HF9 : Hid (Fr (fun z => z = wo.heap.size) W9 wu) := Fr.turned htu rfl
                  clear htu
                  go_roundw
                  case rel =>
                    refine ⟨1, putL ln (T1, p2) (x3V tq), .inr (.inl ⟨rfl, rfl⟩), ?_, ?_, ?_, ?_⟩
                    · exact R3.fr HJ9.out HF9.out (by omega) (by omega) (by omega) (by omega) (by omega)
                    · rw [HPT.out]
                      refine Next.put HN9.out HD.out ?_ hmu HF9.out.word
                      exact HF9.out.xr HQ9.out
                    · have h1 := Sum.fr HS9.out HF9.out (by omega)
                      rw [HPT.out, dec_snoc, if_neg (by rw [HD.out]; decide)]
                      exact h1
                    · exact HFF9.out.trans (HF9.out.mono fun z hz => .inr hz)
                  case measure => simp [intOf]
                | some pv =>
                  have hsm := Next.some H5.out.2.1 hlk
                  obtain ⟨tv, rfl, hsm⟩ := XR.x3 hsm
                  go_upto_region 24 with (refine wpList_lookup_hit rfl _ _ 155 rfl pt_ok Tryz.underlying155 (zero_xr _) rfl HNM.out (T1, p2) rfl (x3V tv) hlk ?_)
                  clear u0 u1 HNM hlk
                  refine wp_box1 fun W8' hsz9 hb9 hX9 => ?_
                  clear hsz9
                  obtain ⟨hw, hHW⟩ : ∃ z, z = wd.heap.size := ⟨_, rfl⟩
                  rw [← hHW] at hX9
                  rw [← hHW]
                  clear hHW
                  have hB8 := H5.out.2.2.2.2.2.1.ext hb9
                  have HE8 := Lib.hid (H5.out.2.2.2.2.2.2.2.ext H5.out.2.2.2.2.2.1 hb9)
                  have HPL := Lib.hid (xplus_at _ _ _ _ W8' (H5.out.2.2.2.2.2.2.1.ext hb9) (hsm.ext hb9) HZ.out.2.1.1 HZ.out.2.1.2 (HZ.out.2.2 (T1, p2)).1 (HZ.out.2.2 (T1, p2)).2)
                  have H8 := Lib.hid (And.intro (H5.out.1.ext hb9) (And.intro (Next.ext H5.out.2.1 hb9) (And.intro (Sum.ext H5.out.2.2.1 hb9) (And.intro (H5.out.2.2.2.1.trans (Fr.ext hb9)) (H5.out.2.2.2.2.1.ext hb9)))))
                  have g0 : W8'.cell? ⟨g, 0, none⟩ = some (.bool tq.b) := hB8.2 0
                  have g1 : W8'.cell? ⟨g, 1, none⟩ = some (.slice tq.a1 tq.n1 tq.c1) := hB8.2 1
                  have g2 : W8'.cell? ⟨g, 2, none⟩ = some (.slice tq.a2 tq.n2 tq.c2) := hB8.2 2
                  have v0 : W8'.cell? ⟨hw, 0, none⟩ = some (.bool tv.b) := hX9.2 0
                  have v1 : W8'.cell? ⟨hw, 1, none⟩ = some (.slice tv.a1 tv.n1 tv.c1) := hX9.2 1
                  have v2 : W8'.cell? ⟨hw, 2, none⟩ = some (.slice tv.a2 tv.n2 tv.c2) := hX9.2 2
                  have HB8 := Lib.hid hB8
                  clear hX9 hB8 hb9 H5 hsm
                  go_wp2_with fail
                  refine HPL.out.mono ?_
                  rintro e wp ⟨vp, rfl, hxp5, hbp5⟩
                  obtain ⟨t5', rfl, hxp5⟩ := XR.x3 hxp5
                  clear g0 g1 g2 v0 v1 v2 HPL
                  have hB6 := HB8.out.ext hbp5
                  have hE6 := HE8.out.ext HB8.out hbp5
                  have g0 : wp.cell? ⟨g, 0, none⟩ = some (.bool tq.b) := hB6.2 0
                  have g1 : wp.cell? ⟨g, 1, none⟩ = some (.slice tq.a1 tq.n1 tq.c1) := hB6.2 1
                  have g2 : wp.cell? ⟨g, 2, none⟩ = some (.slice tq.a2 tq.n2 tq.c2) := hB6.2 2
                  have e0 := hE6 0
                  have e1 := hE6 1
                  have e2 := hE6 2
                  have HH := Lib.hid (And.intro hB6 (And.intro hE6 hxp5))
                  have HBP := Lib.hid hbp5
                  clear hB6 hE6 hxp5 hbp5
                  go_upto_region 26 with (fail)
                  clear g0 g1 g2 e0 e1 e2
                  obtain ⟨X9, hX⟩ : ∃ X9, X9 = ((wp.setCell ⟨g, 0, none⟩ (.bool t5'.b)).setCell ⟨g, 1, none⟩ (.slice t5'.a1 t5'.n1 t5'.c1)).setCell ⟨g, 2, none⟩ (.slice t5'.a2 t5'.n2 t5'.c2) := ⟨_, rfl⟩
                  rw [← hX]
                  have hf8 : Fr (fun z => z = g) wp X9 := by rw [hX]; exact Fr.set3 HH.out.1 (x3_nw tq) _ _ _ rfl
                  have HB9 : Hid (Box X9 g (x3C t5')) := by
                    have : Box X9 g (x3C t5') := by rw [hX]; exact box_set3 HH.out.1 t5'
                    exact this
                  clear hX
                  have hf9 : Fr (fun z => z = g) W8' X9 := (Fr.ext HBP.out).trans hf8
                  have hg9 : ¬ (bto = g) := by omega
                  have HJ9 := Lib.hid (R3.fr H8.out.1 hf9 (by omega) (by omega) (by omega) (by omega) (by omega))
                  have HN9 := Lib.hid (Next.fr H8.out.2.1 hf9 (by omega))
                  have HS9 := Lib.hid (Sum.fr H8.out.2.2.1 hf9 (by omega))
                  have HFF9 := Lib.hid (Fr.trans2 H8.out.2.2.2.1 hf9 (fun z hz hzg => absurd hz (by omega)))
                  have HX9 := Lib.hid (hf9.box H8.out.2.2.2.2 hg9)
                  have HQ9 : Hid (XR X9 (x3V t5') (at_ (part (many U) (many V) (many E) (F k) done (p1, p2) 0) (T1, p2) + fq * many U)) := by
                    have : XR X9 (x3V t5') (at_ (part (many U) (many V) (many E) (F k) done (p1, p2) 0) (T1, p2) + fq * many U) := by
                      rw [Rat.add_comm]; exact hf8.xr HH.out.2.2
                    exact this
                  clear H8 hf8 hf9 HH HBP HB8 HE8 hg9
                  have u0 : X9.cell? ⟨bto, 0, none⟩ = some (.int .i64 (T1 : Int)) := HX9.out.2 0
                  have u1 : X9.cell? ⟨bto, 1, none⟩ = some (.int .i64 (p2 : Int)) := HX9.out.2 1
                  have g0 : X9.cell? ⟨g, 0, none⟩ = some (.bool t5'.b) := HB9.out.2 0
                  have g1 : X9.cell? ⟨g, 1, none⟩ = some (.slice t5'.a1 t5'.n1 t5'.c1) := HB9.out.2 1
                  have g2 : X9.cell? ⟨g, 2, none⟩ = some (.slice t5'.a2 t5'.n2 t5'.c2) := HB9.out.2 2
                  go_wp2_with (refine wpList_update_a rfl _ _ _ 155 rfl pt_ok Tryz.underlying155 rfl HN9.out.map (T1, p2) rfl (x3V t5') rfl ?_; intro wu hmu htu)
                  clear u0 u1 g0 g1 g2
                  have HF9 : Hid (Fr (fun z => z = wo.heap.size) X9 wu) := Fr.turned htu rfl
                  clear htu
                  go_roundw
                  case rel =>
                    refine ⟨1, putL ln (T1, p2) (x3V t5'), .inr (.inl ⟨rfl, rfl⟩), ?_, ?_, ?_, ?_⟩
                    · exact R3.fr HJ9.out HF9.out (by omega) (by omega) (by omega) (by omega) (by omega)
                    · rw [HPT.out]
                      refine Next.put HN9.out HD.out ?_ hmu HF9.out.word
                      exact HF9.out.xr HQ9.out
                    · have h1 := Sum.fr HS9.out HF9.out (by omega)
                      rw [HPT.out, dec_snoc, if_neg (by rw [HD.out]; decide)]
                      exact h1
                    · exact HFF9.out.trans (HF9.out.mono fun z hz => .inr hz)
                  case measure => simp [intOf]
              · have HD : Hid (DEC (T1, p2) = true) := by rw [← HDEC.out]; exact hdv
                clear hdv
                obtain ⟨⟨t0, hB0, hX0⟩, hF0⟩ := hS4
                have s0 : wd.cell? ⟨bs, 0, none⟩ = some (.bool t0.b) := hB0.2 0
                have s1 : wd.cell? ⟨bs, 1, none⟩ = some (.slice t0.a1 t0.n1 t0.c1) := hB0.2 1
                have s2 : wd.cell? ⟨bs, 2, none⟩ = some (.slice t0.a2 t0.n2 t0.c2) := hB0.2 2
                have g0 : wd.cell? ⟨g, 0, none⟩ = some (.bool tq.b) := hB4.2 0
                have g1 : wd.cell? ⟨g, 1, none⟩ = some (.slice tq.a1 tq.n1 tq.c1) := hB4.2 1
                have g2 : wd.cell? ⟨g, 2, none⟩ = some (.slice tq.a2 tq.n2 tq.c2) := hB4.2 2
                have HPL := Lib.hid (xplus_at _ _ _ _ wd hX0 hQ4 HZ.out.1.1 HZ.out.1.2 HZ.out.2.1.1 HZ.out.2.1.2)
                have H5 := Lib.hid (And.intro hJ4 (And.intro hN4 (And.intro hF4 (And.intro hB0 hF0))))
                clear hJ4 hN4 hF4 hX4 hB4 hQ4 hE4 hX0 hB0 hF0
                go_wp2_with fail
                refine HPL.out.mono ?_
                rintro e wp ⟨vp, rfl, hxp5, hbp5⟩
                obtain ⟨t5', rfl, hxp5⟩ := XR.x3 hxp5
                clear s0 s1 s2 g0 g1 g2 HPL
                have hJ6 := H5.out.1.ext hbp5
                have hN6 := Next.ext H5.out.2.1 hbp5
                have hF6 := H5.out.2.2.1.trans (Fr.ext hbp5)
                have hB6 := H5.out.2.2.2.1.ext hbp5
                have hE6 := H5.out.2.2.2.2.ext H5.out.2.2.2.1 hbp5
                clear H5 hbp5
                have s0 : wp.cell? ⟨bs, 0, none⟩ = some (.bool t0.b) := hB6.2 0
                have s1 : wp.cell? ⟨bs, 1, none⟩ = some (.slice t0.a1 t0.n1 t0.c1) := hB6.2 1
                have s2 : wp.cell? ⟨bs, 2, none⟩ = some (.slice t0.a2 t0.n2 t0.c2) := hB6.2 2
                have e0 := hE6 0
                have e1 := hE6 1
                have e2 := hE6 2
                have HF8 : Hid (Fr (fun z => z = bs) wp (((wp.setCell ⟨bs, 0, none⟩ (.bool t5'.b)).setCell ⟨bs, 1, none⟩ (.slice t5'.a1 t5'.n1 t5'.c1)).setCell ⟨bs, 2, none⟩ (.slice t5'.a2 t5'.n2 t5'.c2))) := Fr.set3 hB6 (x3_nw t0) _ _ _ rfl
                have HS8 := Lib.hid (sum_set hB6 hE6 hxp5)
                have H7 := Lib.hid (And.intro hJ6 (And.intro hN6 hF6))
                clear hJ6 hN6 hF6 hB6 hE6 hxp5
                go_wp2
                clear s0 s1 s2 e0 e1 e2
                go_roundw
                case rel =>
                  refine ⟨1, ln, .inr (.inl ⟨rfl, rfl⟩), ?_, ?_, ?_, ?_⟩
                  · exact R3.fr H7.out.1 HF8.out (by omega) (by omega) (by omega) (by omega) (by omega)
                  · have h1 := Next.fr H7.out.2.1 HF8.out (by omega)
                    rw [HPT.out]
                    exact Next.skip h1 HD.out
                  · have h1 := HS8.out
                    rw [Rat.add_assoc] at h1
                    rw [HPT.out, dec_snoc, if_pos HD.out]
                    exact h1
                  · exact H7.out.2.2.trans (HF8.out.mono fun z hz => .inl hz)
                case measure => simp [intOf]
            · have xb0 : wx.cell? ⟨bt, 0, none⟩ = some (.int .i64 (p1 : Int)) := HJ.out.at_.2 0
              have xb1 : wx.cell? ⟨bt, 1, none⟩ = some (.int .i64 (p2 : Int)) := HJ.out.at_.2 1
              have xl : wx.cell? ⟨bl, 1, none⟩ = some (.int .i64 (V : Int)) := HJ.out.ls.2 1
              go_upto_region 18 with (fail)
              refine wp_box1r fun W6 hsz6 hb6 hX6 hF6 => ?_
              clear hsz6 xb0 xb1 xl
              have yj : W6.cell? ⟨wx.heap.size, 1, none⟩ = some (.int .i64 (p2 : Int)) := hX6.2 1
              have yf := hF6 1
              go_upto_region 20 with (fail)
              clear yj yf
              obtain ⟨Y, hY⟩ : ∃ Y, Y = W6.setCell ⟨wx.heap.size, 1, none⟩ (.int .i64 ((p2 : Int) + 1)) := ⟨_, rfl⟩
              rw [← hY]
              have hXY : Box Y wx.heap.size #[.int .i64 ((p1 : Nat) : Int), .int .i64 ((p2 + 1 : Nat) : Int)] := by
                rw [hY]
                have := box2_1 hX6 (.int .i64 ((p2 : Int) + 1))
                rw [show ((p2 : Int) + 1) = ((p2 + 1 : Nat) : Int) by omega] at this
                exact this
              have hbY : Below wx.heap.size wx Y := by rw [hY]; exact hb6.setCell (Nat.le_refl _) _
              clear hY hX6 hF6 hb6
              have hT : (p1) + (p2 + 1) ≤ 60 := by omega
              have HPT := Lib.hid (part_2 (many U) (many V) (many E) (F k) done p1 p2)
              generalize p2 + 1 = T2 at *
              have HJ2 := Lib.hid (HJ.out.ext hbY)
              have HN2 := Lib.hid (Next.ext HN.out hbY)
              have HS2 := Lib.hid (Sum.ext HSU.out hbY)
              have HFY := Lib.hid (HF2.out.trans (Fr.ext hbY))
              have HXY := Lib.hid hXY
              have hbt5 : W5.heap.size ≤ wx.heap.size := HF2.out.size
              have hbto : wo.heap.size + 2 ≤ wx.heap.size := by have := HF2.out.size; omega
              clear HJ HN HSU HF2 hbY hXY
              generalize wx.heap.size = bto at *
              obtain ⟨fq, HFQ⟩ : ∃ x, Hid (x = F k (p1, p2)) := ⟨_, rfl⟩
              have HXP : Hid (XR Y (x3V tp) fq) := by
                have : XR Y (x3V tp) fq := by rw [HFQ.out]; exact HJ2.out.xp
                exact this
              have HSZ := Lib.hid (sizes (M := V) (fq := fq) HKP.out.2.2.2 (by rw [HFQ.out]; exact HFK.out.1 _) (by omega))
              refine Grow.wp_region_grow 7 [TP.eq (x3V tp), TP.eq (.int .i64 (V : Int)), TP.xr ((V : Int) : Rat), TP.xr (fq * ((V : Int) : Rat)), TP.eq (x3V tu), TP.xr (fq * ((V : Int) : Rat) * unitQ), TP.new Y.heap.size zeroX] [[], [], [1], [0, 2], [], [3, 4], []] (by kernel_rfl) (by kernel_rfl) ⟨?o01, ?o11, ?o21, ?o31, ?o41, ?o51, ?o61, trivial⟩ ?_
              case o01 =>
                intro w' hb
                have h3 := HJ2.out.ext hb
                have x0 : w'.cell? ⟨bp, 0, none⟩ = some (.bool tp.b) := h3.pr.2 0
                have x1 : w'.cell? ⟨bp, 1, none⟩ = some (.slice tp.a1 tp.n1 tp.c1) := h3.pr.2 1
                have x2 : w'.cell? ⟨bp, 2, none⟩ = some (.slice tp.a2 tp.n2 tp.c2) := h3.pr.2 2
                clear h3
                show wpList _ _ _ _ _ _
                go_wp2
                exact ⟨rfl, Below.refl _ _, rfl⟩
              case o11 =>
                intro w' hb
                show wpList _ _ _ _ _ _
                go_wp2
                exact ⟨rfl, Below.refl _ _, rfl⟩
              case o21 =>
                intro w' hb v1 hv1
                obtain rfl : v1 = _ := hv1
                show wpList _ _ _ _ _ _
                simp only [Grow.dstOf, zz1, zz2, zz3, zz4, Act.put, zz5, zz6, zz7]
                go_wp2_with fail
                refine (whole_at (V : Int) (by omega) (by omega) _).mono ?_
                rintro e wz ⟨vz, rfl, hxz, hbz⟩
                go_wp2
                exact ⟨hxz, hbz, rfl⟩
              case o31 =>
                intro w' hb v1 hv1 v2 hv2
                obtain rfl : v1 = _ := hv1
                have hv2' : XR w' v2 ((V : Int) : Rat) := hv2
                clear hv2
                have hx := HXP.out.ext hb
                show wpList _ _ _ _ _ _
                simp only [Grow.dstOf, zz1, zz2, zz3, zz4, Act.put, zz5, zz6, zz7]
                go_wp2_with fail
                refine (xtimes_at _ _ _ _ _ hx hv2' HSZ.out.1.1 HSZ.out.1.2 HSZ.out.2.1.1 HSZ.out.2.1.2).mono ?_
                rintro e wz ⟨vz, rfl, hxz, hbz⟩
                go_wp2
                exact ⟨hxz, hbz, rfl⟩
              case o41 =>
                intro w' hb
                have h3 := HJ2.out.ext hb
                have x0 : w'.cell? ⟨bu, 0, none⟩ = some (.bool tu.b) := h3.un.2 0
                have x1 : w'.cell? ⟨bu, 1, none⟩ = some (.slice tu.a1 tu.n1 tu.c1) := h3.un.2 1
                have x2 : w'.cell? ⟨bu, 2, none⟩ = some (.slice tu.a2 tu.n2 tu.c2) := h3.un.2 2
                clear h3
                show wpList _ _ _ _ _ _
                go_wp2
                exact ⟨rfl, Below.refl _ _, rfl⟩
              case o51 =>
                intro w' hb v1 hv1 v2 hv2
                obtain rfl : v2 = _ := hv2
                have hv1' : XR w' v1 (fq * ((V : Int) : Rat)) := hv1
                clear hv1
                have hx := HJ2.out.xu.ext hb
                show wpList _ _ _ _ _ _
                simp only [Grow.dstOf, zz1, zz2, zz3, zz4, Act.put, zz5, zz6, zz7]
                go_wp2_with fail
                refine (xtimes_at _ _ _ _ _ hv1' hx HSZ.out.2.2.1.1 HSZ.out.2.2.1.2 HSZ.out.2.2.2.1 HSZ.out.2.2.2.2).mono ?_
                rintro e wz ⟨vz, rfl, hxz, hbz⟩
                go_wp2
                exact ⟨hxz, hbz, rfl⟩
              case o61 =>
                intro w' hb
                show wpList _ _ _ _ _ _
                go_wp2
                exact ⟨⟨_, rfl, hb.size, Box.new _ _ _, Fre.new _ _ _⟩, ext_alloc _ _, rfl⟩
              intro w7 hb7 v0 h0 v1 h1 v2 h2 v3 h3 v4 h4 v5 h5 v6 h6
              show wpList _ _ _ _ _ _
              simp only [Act.put, zz5, zz6, zz7]
              have g5 : XR w7 v5 (fq * ((V : Int) : Rat) * unitQ) := h5
              have g6 : ∃ g, v6 = .pointer (some ⟨g, 0, none⟩) ∧ Y.heap.size ≤ g ∧ Box w7 g zeroX ∧ Fre w7 g := h6
              clear h0 h1 h2 h3 h4 h5 h6
              obtain ⟨tq, rfl, hq⟩ := XR.x3 g5
              obtain ⟨g, rfl, hgY, hXg, hFg⟩ := g6
              rw [Rat.mul_assoc] at hq
              have hq' : XR w7 (x3V tq) (fq * many V) := hq
              have hgb : bto < g := Nat.lt_of_lt_of_le HXY.out.1 hgY
              obtain ⟨r0, r1, r2⟩ := boxX hXg
              have f0 := hFg 0
              have f1 := hFg 1
              have f2 := hFg 2
              clear g5 hq
              go_upto_region 21 with (fail)
              clear r0 r1 r2 f0 f1 f2
              obtain ⟨X, hX⟩ : ∃ X, X = ((w7.setCell ⟨g, 0, none⟩ (.bool tq.b)).setCell ⟨g, 1, none⟩ (.slice tq.a1 tq.n1 tq.c1)).setCell ⟨g, 2, none⟩ (.slice tq.a2 tq.n2 tq.c2) := ⟨_, rfl⟩
              rw [← hX]
              have b23 : Box X g (x3C tq) := by rw [hX]; exact box_set3 (t := ⟨false, none, 0, 0, none, 0, 0⟩) hXg tq
              have x23 : XR X (x3V tq) (fq * many V) := hq'.kp (by rw [hX]; exact Kp.set3 hXg zeroX_word _ _ _)
              have f23 : Fre X g := by rw [hX]; intro j; rw [frozen_set3]; exact hFg j
              have hbX : Below Y.heap.size Y X := by rw [hX]; exact ((hb7.setCell hgY _).setCell hgY _).setCell hgY _
              clear hX hXg hFg hq' hb7 hgY
              have hJ3 := HJ2.out.ext hbX
              have hN3 := Next.ext HN2.out hbX
              have hS3 := Sum.ext HS2.out hbX
              have hF3 := HFY.out.trans (Fr.ext hbX)
              have hXY3 := HXY.out.ext hbX
              clear hbX HJ2 HN2 HS2 HFY HXY HXP HSZ
              have y0 : X.cell? ⟨w.heap.size, 0, none⟩ = some (.int .i64 d) := hJ3.bet.2 0
              have y1 : X.cell? ⟨w.heap.size, 1, none⟩ = some (.int .i64 (bets : Int)) := hJ3.bet.2 1
              have y2 : X.cell? ⟨w.heap.size, 2, none⟩ = some (.bool b) := hJ3.bet.2 2
              have y3 : X.cell? ⟨w.heap.size, 3, none⟩ = some (.slice a1 n1 c1) := hJ3.bet.2 3
              have y4 : X.cell? ⟨w.heap.size, 4, none⟩ = some (.slice a2 n2 c2) := hJ3.bet.2 4
              have z0 : X.cell? ⟨bto, 0, none⟩ = some (.int .i64 (p1 : Int)) := hXY3.2 0
              have z1 : X.cell? ⟨bto, 1, none⟩ = some (.int .i64 (T2 : Int)) := hXY3.2 1
              have HDC := Lib.hid (decides_at d bets p1 T2 q hT b a1 n1 c1 a2 n2 c2 X hJ3.bok)
              have HJ3 := Lib.hid hJ3
              have HN3 := Lib.hid hN3
              have HS3 := Lib.hid hS3
              have HF3 := Lib.hid hF3
              have HX3 := Lib.hid hXY3
              have HG3 := Lib.hid (And.intro b23 (And.intro x23 f23))
              clear hJ3 hN3 hS3 hF3 hXY3 b23 x23 f23
              go_wp2_with fail
              refine HDC.out.mono ?_
              rintro e wd ⟨rfl, hbd⟩
              clear y0 y1 y2 y3 y4 z0 z1 HDC
              have hJ4 := HJ3.out.ext hbd
              have hN4 := Next.ext HN3.out hbd
              have hS4 := Sum.ext HS3.out hbd
              have hF4 := HF3.out.trans (Fr.ext hbd)
              have hX4 := HX3.out.ext hbd
              have hB4 := HG3.out.1.ext hbd
              have hQ4 := HG3.out.2.1.ext hbd
              have hE4 := HG3.out.2.2.ext HG3.out.1 hbd
              clear hbd HJ3 HN3 HS3 HF3 HX3 HG3
              have HZ := Lib.hid (sizes2 (dec := DEC) (s := S k) (C := part (many U) (many V) (many E) (F k) done (p1, p2) 1) (M := V) (fq := fq) HKP.out.2.2.2 HFK.out.2 (by rw [HFQ.out]; exact HFK.out.1 _) (by omega) (fun c hc => HCF.out (F k) k HFK.out.1 _ c (part_mem c hc)) (Nat.le_trans part_len HKP.out.1))
              have hg1 : g < wd.heap.size := hB4.1
              have hb1 : bto < wd.heap.size := hX4.1
              rw [HFQ.out.symm] at HPT
              cases hdv : decB d bets q p1 T2
              · have HD : Hid (DEC (p1, T2) = false) := by rw [← HDEC.out]; exact hdv
                clear hdv
                have u0 : wd.cell? ⟨bto, 0, none⟩ = some (.int .i64 (p1 : Int)) := hX4.2 0
                have u1 : wd.cell? ⟨bto, 1, none⟩ = some (.int .i64 (T2 : Int)) := hX4.2 1
                have HNM := Lib.hid hN4.map
                have H5 := Lib.hid (And.intro hJ4 (And.intro hN4 (And.intro hS4 (And.intro hF4 (And.intro hX4 (And.intro hB4 (And.intro hQ4 hE4)))))))
                clear hJ4 hN4 hS4 hF4 hX4 hB4 hQ4 hE4
                cases hlk : look ln (p1, T2) with
                | none =>
                  have HAT : Hid (at_ (part (many U) (many V) (many E) (F k) done (p1, p2) 1) (p1, T2) = 0) := Next.none H5.out.2.1 HD.out hlk
                  go_upto_region 24 with (refine wpList_lookup_miss rfl _ _ 155 rfl pt_ok Tryz.underlying155 (zero_xr _) rfl HNM.out (p1, T2) rfl hlk ?_)
                  clear u0 u1 HNM hlk
                  refine wp_box1 fun W9 hsz9 hb9 hX9 => ?_
                  clear hsz9 hX9
                  have HJ9 := Lib.hid (H5.out.1.ext hb9)
                  have HN9 := Lib.hid (Next.ext H5.out.2.1 hb9)
                  have HS9 := Lib.hid (Sum.ext H5.out.2.2.1 hb9)
                  have HFF9 := Lib.hid (H5.out.2.2.2.1.trans (Fr.ext hb9))
                  have HX9 := Lib.hid (H5.out.2.2.2.2.1.ext hb9)
                  have HB9 := Lib.hid (H5.out.2.2.2.2.2.1.ext hb9)
                  have HQ9 : Hid (XR W9 (x3V tq) (at_ (part (many U) (many V) (many E) (F k) done (p1, p2) 1) (p1, T2) + fq * many V)) := by
                    have : XR W9 (x3V tq) (at_ (part (many U) (many V) (many E) (F k) done (p1, p2) 1) (p1, T2) + fq * many V) := by
                      rw [HAT.out, Rat.zero_add]; exact H5.out.2.2.2.2.2.2.1.ext hb9
                    exact this
                  clear H5 hb9 HAT
                  have u0 : W9.cell? ⟨bto, 0, none⟩ = some (.int .i64 (p1 : Int)) := HX9.out.2 0
                  have u1 : W9.cell? ⟨bto, 1, none⟩ = some (.int .i64 (T2 : Int)) := HX9.out.2 1
                  have g0 : W9.cell? ⟨g, 0, none⟩ = some (.bool tq.b) := HB9.out.2 0
                  have g1 : W9.cell? ⟨g, 1, none⟩ = some (.slice tq.a1 tq.n1 tq.c1) := HB9.out.2 1
                  have g2 : W9.cell? ⟨g, 2, none⟩ = some (.slice tq.a2 tq.n2 tq.c2) := HB9.out.2 2
                  go_wp2_with (refine wpList_update_a rfl _ _ _ 155 rfl pt_ok Tryz.underlying155 rfl HN9.out.map (p1, T2) rfl (x3V tq) rfl ?_; intro wu hmu htu)
                  clear u0 u1 g0 g1 g2
                  have HF9 : Hid (Fr (fun z => z = wo.heap.size) W9 wu) := Fr.turned htu rfl
                  clear htu
                  go_roundw
                  case rel =>
                    refine ⟨2, putL ln (p1, T2) (x3V tq), .inr (.inr (.inl ⟨rfl, rfl⟩)), ?_, ?_, ?_, ?_⟩
                    · exact R3.fr HJ9.out HF9.out (by omega) (by omega) (by omega) (by omega) (by omega)
                    · rw [HPT.out]
                      refine Next.put HN9.out HD.out ?_ hmu HF9.out.word
                      exact HF9.out.xr HQ9.out
                    · have h1 := Sum.fr HS9.out HF9.out (by omega)
                      rw [HPT.out, dec_snoc, if_neg (by rw [HD.out]; decide)]
                      exact h1
                    · exact HFF9.out.trans (HF9.out.mono fun z hz => .inr hz)
                  case measure => simp [intOf]
                | some pv =>
                  have hsm := Next.some H5.out.2.1 hlk
                  obtain ⟨tv, rfl, hsm⟩ := XR.x3 hsm
                  go_upto_region 24 with (refine wpList_lookup_hit rfl _ _ 155 rfl pt_ok Tryz.underlying155 (zero_xr _) rfl HNM.out (p1, T2) rfl (x3V tv) hlk ?_)
                  clear u0 u1 HNM hlk
                  refine wp_box1 fun W8' hsz9 hb9 hX9 => ?_
                  clear hsz9
                  obtain ⟨hw, hHW⟩ : ∃ z, z = wd.heap.size := ⟨_, rfl⟩
                  rw [← hHW] at hX9
                  rw [← hHW]
                  clear hHW
                  have hB8 := H5.out.2.2.2.2.2.1.ext hb9
                  have HE8 := Lib.hid (H5.out.2.2.2.2.2.2.2.ext H5.out.2.2.2.2.2.1 hb9)
                  have HPL := Lib.hid (xplus_at _ _ _ _ W8' (H5.out.2.2.2.2.2.2.1.ext hb9) (hsm.ext hb9) HZ.out.2.1.1 HZ.out.2.1.2 (HZ.out.2.2 (p1, T2)).1 (HZ.out.2.2 (p1, T2)).2)
                  have H8 := Lib.hid (And.intro (H5.out.1.ext hb9) (And.intro (Next.ext H5.out.2.1 hb9) (And.intro (Sum.ext H5.out.2.2.1 hb9) (And.intro (H5.out.2.2.2.1.trans (Fr.ext hb9)) (H5.out.2.2.2.2.1.ext hb9)))))
                  have g0 : W8'.cell? ⟨g, 0, none⟩ = some (.bool tq.b) := hB8.2 0
                  have g1 : W8'.cell? ⟨g, 1, none⟩ = some (.slice tq.a1 tq.n1 tq.c1) := hB8.2 1
                  have g2 : W8'.cell? ⟨g, 2, none⟩ = some (.slice tq.a2 tq.n2 tq.c2) := hB8.2 2
                  have v0 : W8'.cell? ⟨hw, 0, none⟩ = some (.bool tv.b) := hX9.2 0
                  have v1 : W8'.cell? ⟨hw, 1, none⟩ = some (.slice tv.a1 tv.n1 tv.c1) := hX9.2 1
                  have v2 : W8'.cell? ⟨hw, 2, none⟩ = some (.slice tv.a2 tv.n2 tv.c2) := hX9.2 2
                  have HB8 := Lib.hid hB8
                  clear hX9 hB8 hb9 H5 hsm
                  go_wp2_with fail
                  refine HPL.out.mono ?_
                  rintro e wp ⟨vp, rfl, hxp5, hbp5⟩
                  obtain ⟨t5', rfl, hxp5⟩ := XR.x3 hxp5
                  clear g0 g1 g2 v0 v1 v2 HPL
                  have hB6 := HB8.out.ext hbp5
                  have hE6 := HE8.out.ext HB8.out hbp5
                  have g0 : wp.cell? ⟨g, 0, none⟩ = some (.bool tq.b) := hB6.2 0
                  have g1 : wp.cell? ⟨g, 1, none⟩ = some (.slice tq.a1 tq.n1 tq.c1) := hB6.2 1
                  have g2 : wp.cell? ⟨g, 2, none⟩ = some (.slice tq.a2 tq.n2 tq.c2) := hB6.2 2
                  have e0 := hE6 0
                  have e1 := hE6 1
                  have e2 := hE6 2
                  have HH := Lib.hid (And.intro hB6 (And.intro hE6 hxp5))
                  have HBP := Lib.hid hbp5
                  clear hB6 hE6 hxp5 hbp5
                  go_upto_region 26 with (fail)
                  clear g0 g1 g2 e0 e1 e2
                  obtain ⟨X9, hX⟩ : ∃ X9, X9 = ((wp.setCell ⟨g, 0, none⟩ (.bool t5'.b)).setCell ⟨g, 1, none⟩ (.slice t5'.a1 t5'.n1 t5'.c1)).setCell ⟨g, 2, none⟩ (.slice t5'.a2 t5'.n2 t5'.c2) := ⟨_, rfl⟩
                  rw [← hX]
                  have hf8 : Fr (fun z => z = g) wp X9 := by rw [hX]; exact Fr.set3 HH.out.1 (x3_nw tq) _ _ _ rfl
                  have HB9 : Hid (Box X9 g (x3C t5')) := by
                    have : Box X9 g (x3C t5') := by rw [hX]; exact box_set3 HH.out.1 t5'
                    exact this
                  clear hX
                  have hf9 : Fr (fun z => z = g) W8' X9 := (Fr.ext HBP.out).trans hf8
                  have hg9 : ¬ (bto = g) := by omega
                  have HJ9 := Lib.hid (R3.fr H8.out.1 hf9 (by omega) (by omega) (by omega) (by omega) (by omega))
                  have HN9 := Lib.hid (Next.fr H8.out.2.1 hf9 (by omega))
                  have HS9 := Lib.hid (Sum.fr H8.out.2.2.1 hf9 (by omega))
                  have HFF9 := Lib.hid (Fr.trans2 H8.out.2.2.2.1 hf9 (fun z hz hzg => absurd hz (by omega)))
                  have HX9 := Lib.hid (hf9.box H8.out.2.2.2.2 hg9)
                  have HQ9 : Hid (XR X9 (x3V t5') (at_ (part (many U) (many V) (many E) (F k) done (p1, p2) 1) (p1, T2) + fq * many V)) := by
                    have : XR X9 (x3V t5') (at_ (part (many U) (many V) (many E) (F k) done (p1, p2) 1) (p1, T2) + fq * many V) := by
                      rw [Rat.add_comm]; exact hf8.xr HH.out.2.2
                    exact this
                  clear H8 hf8 hf9 HH HBP HB8 HE8 hg9
                  have u0 : X9.cell? ⟨bto, 0, none⟩ = some (.int .i64 (p1 : Int)) := HX9.out.2 0
                  have u1 : X9.cell? ⟨bto, 1, none⟩ = some (.int .i64 (T2 : Int)) := HX9.out.2 1
                  have g0 : X9.cell? ⟨g, 0, none⟩ = some (.bool t5'.b) := HB9.out.2 0
                  have g1 : X9.cell? ⟨g, 1, none⟩ = some (.slice t5'.a1 t5'.n1 t5'.c1) := HB9.out.2 1
                  have g2 : X9.cell? ⟨g, 2, none⟩ = some (.slice t5'.a2 t5'.n2 t5'.c2) := HB9.out.2 2
                  go_wp2_with (refine wpList_update_a rfl _ _ _ 155 rfl pt_ok Tryz.underlying155 rfl HN9.out.map (p1, T2) rfl (x3V t5') rfl ?_; intro wu hmu htu)
                  clear u0 u1 g0 g1 g2
                  have HF9 : Hid (Fr (fun z => z = wo.heap.size) X9 wu) := Fr.turned htu rfl
                  clear htu
                  go_roundw
                  case rel =>
                    refine ⟨2, putL ln (p1, T2) (x3V t5'), .inr (.inr (.inl ⟨rfl, rfl⟩)), ?_, ?_, ?_, ?_⟩
                    · exact R3.fr HJ9.out HF9.out (by omega) (by omega) (by omega) (by omega) (by omega)
                    · rw [HPT.out]
                      refine Next.put HN9.out HD.out ?_ hmu HF9.out.word
                      exact HF9.out.xr HQ9.out
                    · have h1 := Sum.fr HS9.out HF9.out (by omega)
                      rw [HPT.out, dec_snoc, if_neg (by rw [HD.out]; decide)]
                      exact h1
                    · exact HFF9.out.trans (HF9.out.mono fun z hz => .inr hz)
                  case measure => simp [intOf]
              · have HD : Hid (DEC (p1, T2) = true) := by rw [← HDEC.out]; exact hdv
                clear hdv
                obtain ⟨⟨t0, hB0, hX0⟩, hF0⟩ := hS4
                have s0 : wd.cell? ⟨bs, 0, none⟩ = some (.bool t0.b) := hB0.2 0
                have s1 : wd.cell? ⟨bs, 1, none⟩ = some (.slice t0.a1 t0.n1 t0.c1) := hB0.2 1
                have s2 : wd.cell? ⟨bs, 2, none⟩ = some (.slice t0.a2 t0.n2 t0.c2) := hB0.2 2
                have g0 : wd.cell? ⟨g, 0, none⟩ = some (.bool tq.b) := hB4.2 0
                have g1 : wd.cell? ⟨g, 1, none⟩ = some (.slice tq.a1 tq.n1 tq.c1) := hB4.2 1
                have g2 : wd.cell? ⟨g, 2, none⟩ = some (.slice tq.a2 tq.n2 tq.c2) := hB4.2 2
                have HPL := Lib.hid (xplus_at _ _ _ _ wd hX0 hQ4 HZ.out.1.1 HZ.out.1.2 HZ.out.2.1.1 HZ.out.2.1.2)
                have H5 := Lib.hid (And.intro hJ4 (And.intro hN4 (And.intro hF4 (And.intro hB0 hF0))))
                clear hJ4 hN4 hF4 hX4 hB4 hQ4 hE4 hX0 hB0 hF0
                go_wp2_with fail
                refine HPL.out.mono ?_
                rintro e wp ⟨vp, rfl, hxp5, hbp5⟩
                obtain ⟨t5', rfl, hxp5⟩ := XR.x3 hxp5
                clear s0 s1 s2 g0 g1 g2 HPL
                have hJ6 := H5.out.1.ext hbp5
                have hN6 := Next.ext H5.out.2.1 hbp5
                have hF6 := H5.out.2.2.1.trans (Fr.ext hbp5)
                have hB6 := H5.out.2.2.2.1.ext hbp5
                have hE6 := H5.out.2.2.2.2.ext H5.out.2.2.2.1 hbp5
                clear H5 hbp5
                have s0 : wp.cell? ⟨bs, 0, none⟩ = some (.bool t0.b) := hB6.2 0
                have s1 : wp.cell? ⟨bs, 1, none⟩ = some (.slice t0.a1 t0.n1 t0.c1) := hB6.2 1
                have s2 : wp.cell? ⟨bs, 2, none⟩ = some (.slice t0.a2 t0.n2 t0.c2) := hB6.2 2
                have e0 := hE6 0
                have e1 := hE6 1
                have e2 := hE6 2
                have HF8 : Hid (Fr (fun z => z = bs) wp (((wp.setCell ⟨bs, 0, none⟩ (.bool t5'.b)).setCell ⟨bs, 1, none⟩ (.slice t5'.a1 t5'.n1 t5'.c1)).setCell ⟨bs, 2, none⟩ (.slice t5'.a2 t5'.n2 t5'.c2))) := Fr.set3 hB6 (x3_nw t0) _ _ _ rfl
                have HS8 := Lib.hid (sum_set hB6 hE6 hxp5)
                have H7 := Lib.hid (And.intro hJ6 (And.intro hN6 hF6))
                clear hJ6 hN6 hF6 hB6 hE6 hxp5
                go_wp2
                clear s0 s1 s2 e0 e1 e2
                go_roundw
                case rel =>
                  refine ⟨2, ln, .inr (.inr (.inl ⟨rfl, rfl⟩)), ?_, ?_, ?_, ?_⟩
                  · exact R3.fr H7.out.1 HF8.out (by omega) (by omega) (by omega) (by omega) (by omega)
                  · have h1 := Next.fr H7.out.2.1 HF8.out (by omega)
                    rw [HPT.out]
                    exact Next.skip h1 HD.out
                  · have h1 := HS8.out
                    rw [Rat.add_assoc] at h1
                    rw [HPT.out, dec_snoc, if_pos HD.out]
                    exact h1
                  · exact H7.out.2.2.trans (HF8.out.mono fun z hz => .inl hz)
                case measure => simp [intOf]
            · have xb0 : wx.cell? ⟨bt, 0, none⟩ = some (.int .i64 (p1 : Int)) := HJ.out.at_.2 0
              have xb1 : wx.cell? ⟨bt, 1, none⟩ = some (.int .i64 (p2 : Int)) := HJ.out.at_.2 1
              have xl : wx.cell? ⟨bl, 2, none⟩ = some (.int .i64 (E : Int)) := HJ.out.ls.2 2
              go_upto_region 18 with (fail)
              refine wp_box1r fun W6 hsz6 hb6 hX6 hF6 => ?_
              clear hsz6 xb0 xb1 xl
              go_upto_region 20 with (fail)
              obtain ⟨Y, hY⟩ : ∃ Y, Y = W6 := ⟨_, rfl⟩
              rw [← hY]
              rw [← hY] at hX6 hb6
              have hXY := hX6
              have hbY := hb6
              clear hY hX6 hF6 hb6
              have hT : p1 + p2 ≤ 60 := by omega
              have HPT := Lib.hid (part_3 (many U) (many V) (many E) (F k) done p1 p2)
              have HJ2 := Lib.hid (HJ.out.ext hbY)
              have HN2 := Lib.hid (Next.ext HN.out hbY)
              have HS2 := Lib.hid (Sum.ext HSU.out hbY)
              have HFY := Lib.hid (HF2.out.trans (Fr.ext hbY))
              have HXY := Lib.hid hXY
              have hbt5 : W5.heap.size ≤ wx.heap.size := HF2.out.size
              have hbto : wo.heap.size + 2 ≤ wx.heap.size := by have := HF2.out.size; omega
              clear HJ HN HSU HF2 hbY hXY
              generalize wx.heap.size = bto at *
              obtain ⟨fq, HFQ⟩ : ∃ x, Hid (x = F k (p1, p2)) := ⟨_, rfl⟩
              have HXP : Hid (XR Y (x3V tp) fq) := by
                have : XR Y (x3V tp) fq := by rw [HFQ.out]; exact HJ2.out.xp
                exact this
              have HSZ := Lib.hid (sizes (M := E) (fq := fq) HKP.out.2.2.2 (by rw [HFQ.out]; exact HFK.out.1 _) (by omega))
              refine Grow.wp_region_grow 7 [TP.eq (x3V tp), TP.eq (.int .i64 (E : Int)), TP.xr ((E : Int) : Rat), TP.xr (fq * ((E : Int) : Rat)), TP.eq (x3V tu), TP.xr (fq * ((E : Int) : Rat) * unitQ), TP.new Y.heap.size zeroX] [[], [], [1], [0, 2], [], [3, 4], []] (by kernel_rfl) (by kernel_rfl) ⟨?o02, ?o12, ?o22, ?o32, ?o42, ?o52, ?o62, trivial⟩ ?_
              case o02 =>
                intro w' hb
                have h3 := HJ2.out.ext hb
                have x0 : w'.cell? ⟨bp, 0, none⟩ = some (.bool tp.b) := h3.pr.2 0
                have x1 : w'.cell? ⟨bp, 1, none⟩ = some (.slice tp.a1 tp.n1 tp.c1) := h3.pr.2 1
                have x2 : w'.cell? ⟨bp, 2, none⟩ = some (.slice tp.a2 tp.n2 tp.c2) := h3.pr.2 2
                clear h3
                show wpList _ _ _ _ _ _
                go_wp2
                exact ⟨rfl, Below.refl _ _, rfl⟩
              case o12 =>
                intro w' hb
                show wpList _ _ _ _ _ _
                go_wp2
                exact ⟨rfl, Below.refl _ _, rfl⟩
              case o22 =>
                intro w' hb v1 hv1
                obtain rfl : v1 = _ := hv1
                show wpList _ _ _ _ _ _
                simp only [Grow.dstOf, zz1, zz2, zz3, zz4, Act.put, zz5, zz6, zz7]
                go_wp2_with fail
                refine (whole_at (E : Int) (by omega) (by omega) _).mono ?_
                rintro e wz ⟨vz, rfl, hxz, hbz⟩
                go_wp2
                exact ⟨hxz, hbz, rfl⟩
              case o32 =>
                intro w' hb v1 hv1 v2 hv2
                obtain rfl : v1 = _ := hv1
                have hv2' : XR w' v2 ((E : Int) : Rat) := hv2
                clear hv2
                have hx := HXP.out.ext hb
                show wpList _ _ _ _ _ _
                simp only [Grow.dstOf, zz1, zz2, zz3, zz4, Act.put, zz5, zz6, zz7]
                go_wp2_with fail
                refine (xtimes_at _ _ _ _ _ hx hv2' HSZ.out.1.1 HSZ.out.1.2 HSZ.out.2.1.1 HSZ.out.2.1.2).mono ?_
                rintro e wz ⟨vz, rfl, hxz, hbz⟩
                go_wp2
                exact ⟨hxz, hbz, rfl⟩
              case o42 =>
                intro w' hb
                have h3 := HJ2.out.ext hb
                have x0 : w'.cell? ⟨bu, 0, none⟩ = some (.bool tu.b) := h3.un.2 0
                have x1 : w'.cell? ⟨bu, 1, none⟩ = some (.slice tu.a1 tu.n1 tu.c1) := h3.un.2 1
                have x2 : w'.cell? ⟨bu, 2, none⟩ = some (.slice tu.a2 tu.n2 tu.c2) := h3.un.2 2
                clear h3
                show wpList _ _ _ _ _ _
                go_wp2
                exact ⟨rfl, Below.refl _ _, rfl⟩
              case o52 =>
                intro w' hb v1 hv1 v2 hv2
                obtain rfl : v2 = _ := hv2
                have hv1' : XR w' v1 (fq * ((E : Int) : Rat)) := hv1
                clear hv1
                have hx := HJ2.out.xu.ext hb
                show wpList _ _ _ _ _ _
                simp only [Grow.dstOf, zz1, zz2, zz3, zz4, Act.put, zz5, zz6, zz7]
                go_wp2_with fail
                refine (xtimes_at _ _ _ _ _ hv1' hx HSZ.out.2.2.1.1 HSZ.out.2.2.1.2 HSZ.out.2.2.2.1 HSZ.out.2.2.2.2).mono ?_
                rintro e wz ⟨vz, rfl, hxz, hbz⟩
                go_wp2
                exact ⟨hxz, hbz, rfl⟩
              case o62 =>
                intro w' hb
                show wpList _ _ _ _ _ _
                go_wp2
                exact ⟨⟨_, rfl, hb.size, Box.new _ _ _, Fre.new _ _ _⟩, ext_alloc _ _, rfl⟩
              intro w7 hb7 v0 h0 v1 h1 v2 h2 v3 h3 v4 h4 v5 h5 v6 h6
              show wpList _ _ _ _ _ _
              simp only [Act.put, zz5, zz6, zz7]
              have g5 : XR w7 v5 (fq * ((E : Int) : Rat) * unitQ) := h5
              have g6 : ∃ g, v6 = .pointer (some ⟨g, 0, none⟩) ∧ Y.heap.size ≤ g ∧ Box w7 g zeroX ∧ Fre w7 g := h6
              clear h0 h1 h2 h3 h4 h5 h6
              obtain ⟨tq, rfl, hq⟩ := XR.x3 g5
              obtain ⟨g, rfl, hgY, hXg, hFg⟩ := g6
              rw [Rat.mul_assoc] at hq
              have hq' : XR w7 (x3V tq) (fq * many E) := hq
              have hgb : bto < g := Nat.lt_of_lt_of_le HXY.out.1 hgY
              obtain ⟨r0, r1, r2⟩ := boxX hXg
              have f0 := hFg 0
              have f1 := hFg 1
              have f2 := hFg 2
              clear g5 hq
              go_upto_region 21 with (fail)
              clear r0 r1 r2 f0 f1 f2
              obtain ⟨X, hX⟩ : ∃ X, X = ((w7.setCell ⟨g, 0, none⟩ (.bool tq.b)).setCell ⟨g, 1, none⟩ (.slice tq.a1 tq.n1 tq.c1)).setCell ⟨g, 2, none⟩ (.slice tq.a2 tq.n2 tq.c2) := ⟨_, rfl⟩
              rw [← hX]
              have b23 : Box X g (x3C tq) := by rw [hX]; exact box_set3 (t := ⟨false, none, 0, 0, none, 0, 0⟩) hXg tq
              have x23 : XR X (x3V tq) (fq * many E) := hq'.kp (by rw [hX]; exact Kp.set3 hXg zeroX_word _ _ _)
              have f23 : Fre X g := by rw [hX]; intro j; rw [frozen_set3]; exact hFg j
              have hbX : Below Y.heap.size Y X := by rw [hX]; exact ((hb7.setCell hgY _).setCell hgY _).setCell hgY _
              clear hX hXg hFg hq' hb7 hgY
              have hJ3 := HJ2.out.ext hbX
              have hN3 := Next.ext HN2.out hbX
              have hS3 := Sum.ext HS2.out hbX
              have hF3 := HFY.out.trans (Fr.ext hbX)
              have hXY3 := HXY.out.ext hbX
              clear hbX HJ2 HN2 HS2 HFY HXY HXP HSZ
              have y0 : X.cell? ⟨w.heap.size, 0, none⟩ = some (.int .i64 d) := hJ3.bet.2 0
              have y1 : X.cell? ⟨w.heap.size, 1, none⟩ = some (.int .i64 (bets : Int)) := hJ3.bet.2 1
              have y2 : X.cell? ⟨w.heap.size, 2, none⟩ = some (.bool b) := hJ3.bet.2 2
              have y3 : X.cell? ⟨w.heap.size, 3, none⟩ = some (.slice a1 n1 c1) := hJ3.bet.2 3
              have y4 : X.cell? ⟨w.heap.size, 4, none⟩ = some (.slice a2 n2 c2) := hJ3.bet.2 4
              have z0 : X.cell? ⟨bto, 0, none⟩ = some (.int .i64 (p1 : Int)) := hXY3.2 0
              have z1 : X.cell? ⟨bto, 1, none⟩ = some (.int .i64 (p2 : Int)) := hXY3.2 1
              have HDC := Lib.hid (decides_at d bets p1 p2 q hT b a1 n1 c1 a2 n2 c2 X hJ3.bok)
              have HJ3 := Lib.hid hJ3
              have HN3 := Lib.hid hN3
              have HS3 := Lib.hid hS3
              have HF3 := Lib.hid hF3
              have HX3 := Lib.hid hXY3
              have HG3 := Lib.hid (And.intro b23 (And.intro x23 f23))
              clear hJ3 hN3 hS3 hF3 hXY3 b23 x23 f23
              go_wp2_with fail
              refine HDC.out.mono ?_
              rintro e wd ⟨rfl, hbd⟩
              clear y0 y1 y2 y3 y4 z0 z1 HDC
              have hJ4 := HJ3.out.ext hbd
              have hN4 := Next.ext HN3.out hbd
              have hS4 := Sum.ext HS3.out hbd
              have hF4 := HF3.out.trans (Fr.ext hbd)
              have hX4 := HX3.out.ext hbd
              have hB4 := HG3.out.1.ext hbd
              have hQ4 := HG3.out.2.1.ext hbd
              have hE4 := HG3.out.2.2.ext HG3.out.1 hbd
              clear hbd HJ3 HN3 HS3 HF3 HX3 HG3
              have HZ := Lib.hid (sizes2 (dec := DEC) (s := S k) (C := part (many U) (many V) (many E) (F k) done (p1, p2) 2) (M := E) (fq := fq) HKP.out.2.2.2 HFK.out.2 (by rw [HFQ.out]; exact HFK.out.1 _) (by omega) (fun c hc => HCF.out (F k) k HFK.out.1 _ c (part_mem c hc)) (Nat.le_trans part_len HKP.out.1))
              have hg1 : g < wd.heap.size := hB4.1
              have hb1 : bto < wd.heap.size := hX4.1
              rw [HFQ.out.symm] at HPT
              cases hdv : decB d bets q p1 p2
              · have HD : Hid (DEC (p1, p2) = false) := by rw [← HDEC.out]; exact hdv
                clear hdv
                have u0 : wd.cell? ⟨bto, 0, none⟩ = some (.int .i64 (p1 : Int)) := hX4.2 0
                have u1 : wd.cell? ⟨bto, 1, none⟩ = some (.int .i64 (p2 : Int)) := hX4.2 1
                have HNM := Lib.hid hN4.map
                have H5 := Lib.hid (And.intro hJ4 (And.intro hN4 (And.intro hS4 (And.intro hF4 (And.intro hX4 (And.intro hB4 (And.intro hQ4 hE4)))))))
                clear hJ4 hN4 hS4 hF4 hX4 hB4 hQ4 hE4
                cases hlk : look ln (p1, p2) with
                | none =>
                  have HAT : Hid (at_ (part (many U) (many V) (many E) (F k) done (p1, p2) 2) (p1, p2) = 0) := Next.none H5.out.2.1 HD.out hlk
                  go_upto_region 24 with (refine wpList_lookup_miss rfl _ _ 155 rfl pt_ok Tryz.underlying155 (zero_xr _) rfl HNM.out (p1, p2) rfl hlk ?_)
                  clear u0 u1 HNM hlk
                  refine wp_box1 fun W9 hsz9 hb9 hX9 => ?_
                  clear hsz9 hX9
                  have HJ9 := Lib.hid (H5.out.1.ext hb9)
                  have HN9 := Lib.hid (Next.ext H5.out.2.1 hb9)
                  have HS9 := Lib.hid (Sum.ext H5.out.2.2.1 hb9)
                  have HFF9 := Lib.hid (H5.out.2.2.2.1.trans (Fr.ext hb9))
                  have HX9 := Lib.hid (H5.out.2.2.2.2.1.ext hb9)
                  have HB9 := Lib.hid (H5.out.2.2.2.2.2.1.ext hb9)
                  have HQ9 : Hid (XR W9 (x3V tq) (at_ (part (many U) (many V) (many E) (F k) done (p1, p2) 2) (p1, p2) + fq * many E)) := by
                    have : XR W9 (x3V tq) (at_ (part (many U) (many V) (many E) (F k) done (p1, p2) 2) (p1, p2) + fq * many E) := by
                      rw [HAT.out, Rat.zero_add]; exact H5.out.2.2.2.2.2.2.1.ext hb9
                    exact this
                  clear H5 hb9 HAT
                  have u0 : W9.cell? ⟨bto, 0, none⟩ = some (.int .i64 (p1 : Int)) := HX9.out.2 0
                  have u1 : W9.cell? ⟨bto, 1, none⟩ = some (.int .i64 (p2 : Int)) := HX9.out.2 1
                  have g0 : W9.cell? ⟨g, 0, none⟩ = some (.bool tq.b) := HB9.out.2 0
                  have g1 : W9.cell? ⟨g, 1, none⟩ = some (.slice tq.a1 tq.n1 tq.c1) := HB9.out.2 1
                  have g2 : W9.cell? ⟨g, 2, none⟩ = some (.slice tq.a2 tq.n2 tq.c2) := HB9.out.2 2
                  go_wp2_with (refine wpList_update_a rfl _ _ _ 155 rfl pt_ok Tryz.underlying155 rfl HN9.out.map (p1, p2) rfl (x3V tq) rfl ?_; intro wu hmu htu)
                  clear u0 u1 g0 g1 g2
                  have HF9 : Hid (Fr (fun z => z = wo.heap.size) W9 wu) := Fr.turned htu rfl
                  clear htu
                  go_roundw
                  case rel =>
                    refine ⟨3, putL ln (p1, p2) (x3V tq), .inr (.inr (.inr ⟨rfl, rfl⟩)), ?_, ?_, ?_, ?_⟩
                    · exact R3.fr HJ9.out HF9.out (by omega) (by omega) (by omega) (by omega) (by omega)
                    · rw [HPT.out]
                      refine Next.put HN9.out HD.out ?_ hmu HF9.out.word
                      exact HF9.out.xr HQ9.out
                    · have h1 := Sum.fr HS9.out HF9.out (by omega)
                      rw [HPT.out, dec_snoc, if_neg (by rw [HD.out]; decide)]
                      exact h1
                    · exact HFF9.out.trans (HF9.out.mono fun z hz => .inr hz)
                  case measure => simp [intOf]
                | some pv =>
                  have hsm := Next.some H5.out.2.1 hlk
                  obtain ⟨tv, rfl, hsm⟩ := XR.x3 hsm
                  go_upto_region 24 with (refine wpList_lookup_hit rfl _ _ 155 rfl pt_ok Tryz.underlying155 (zero_xr _) rfl HNM.out (p1, p2) rfl (x3V tv) hlk ?_)
                  clear u0 u1 HNM hlk
                  refine wp_box1 fun W8' hsz9 hb9 hX9 => ?_
                  clear hsz9
                  obtain ⟨hw, hHW⟩ : ∃ z, z = wd.heap.size := ⟨_, rfl⟩
                  rw [← hHW] at hX9
                  rw [← hHW]
                  clear hHW
                  have hB8 := H5.out.2.2.2.2.2.1.ext hb9
                  have HE8 := Lib.hid (H5.out.2.2.2.2.2.2.2.ext H5.out.2.2.2.2.2.1 hb9)
                  have HPL := Lib.hid (xplus_at _ _ _ _ W8' (H5.out.2.2.2.2.2.2.1.ext hb9) (hsm.ext hb9) HZ.out.2.1.1 HZ.out.2.1.2 (HZ.out.2.2 (p1, p2)).1 (HZ.out.2.2 (p1, p2)).2)
                  have H8 := Lib.hid (And.intro (H5.out.1.ext hb9) (And.intro (Next.ext H5.out.2.1 hb9) (And.intro (Sum.ext H5.out.2.2.1 hb9) (And.intro (H5.out.2.2.2.1.trans (Fr.ext hb9)) (H5.out.2.2.2.2.1.ext hb9)))))
                  have g0 : W8'.cell? ⟨g, 0, none⟩ = some (.bool tq.b) := hB8.2 0
                  have g1 : W8'.cell? ⟨g, 1, none⟩ = some (.slice tq.a1 tq.n1 tq.c1) := hB8.2 1
                  have g2 : W8'.cell? ⟨g, 2, none⟩ = some (.slice tq.a2 tq.n2 tq.c2) := hB8.2 2
                  have v0 : W8'.cell? ⟨hw, 0, none⟩ = some (.bool tv.b) := hX9.2 0
                  have v1 : W8'.cell? ⟨hw, 1, none⟩ = some (.slice tv.a1 tv.n1 tv.c1) := hX9.2 1
                  have v2 : W8'.cell? ⟨hw, 2, none⟩ = some (.slice tv.a2 tv.n2 tv.c2) := hX9.2 2
                  have HB8 := Lib.hid hB8
                  clear hX9 hB8 hb9 H5 hsm
                  go_wp2_with fail
                  refine HPL.out.mono ?_
                  rintro e wp ⟨vp, rfl, hxp5, hbp5⟩
                  obtain ⟨t5', rfl, hxp5⟩ := XR.x3 hxp5
                  clear g0 g1 g2 v0 v1 v2 HPL
                  have hB6 := HB8.out.ext hbp5
                  have hE6 := HE8.out.ext HB8.out hbp5
                  have g0 : wp.cell? ⟨g, 0, none⟩ = some (.bool tq.b) := hB6.2 0
                  have g1 : wp.cell? ⟨g, 1, none⟩ = some (.slice tq.a1 tq.n1 tq.c1) := hB6.2 1
                  have g2 : wp.cell? ⟨g, 2, none⟩ = some (.slice tq.a2 tq.n2 tq.c2) := hB6.2 2
                  have e0 := hE6 0
                  have e1 := hE6 1
                  have e2 := hE6 2
                  have HH := Lib.hid (And.intro hB6 (And.intro hE6 hxp5))
                  have HBP := Lib.hid hbp5
                  clear hB6 hE6 hxp5 hbp5
                  go_upto_region 26 with (fail)
                  clear g0 g1 g2 e0 e1 e2
                  obtain ⟨X9, hX⟩ : ∃ X9, X9 = ((wp.setCell ⟨g, 0, none⟩ (.bool t5'.b)).setCell ⟨g, 1, none⟩ (.slice t5'.a1 t5'.n1 t5'.c1)).setCell ⟨g, 2, none⟩ (.slice t5'.a2 t5'.n2 t5'.c2) := ⟨_, rfl⟩
                  rw [← hX]
                  have hf8 : Fr (fun z => z = g) wp X9 := by rw [hX]; exact Fr.set3 HH.out.1 (x3_nw tq) _ _ _ rfl
                  have HB9 : Hid (Box X9 g (x3C t5')) := by
                    have : Box X9 g (x3C t5') := by rw [hX]; exact box_set3 HH.out.1 t5'
                    exact this
                  clear hX
                  have hf9 : Fr (fun z => z = g) W8' X9 := (Fr.ext HBP.out).trans hf8
                  have hg9 : ¬ (bto = g) := by omega
                  have HJ9 := Lib.hid (R3.fr H8.out.1 hf9 (by omega) (by omega) (by omega) (by omega) (by omega))
                  have HN9 := Lib.hid (Next.fr H8.out.2.1 hf9 (by omega))
                  have HS9 := Lib.hid (Sum.fr H8.out.2.2.1 hf9 (by omega))
                  have HFF9 := Lib.hid (Fr.trans2 H8.out.2.2.2.1 hf9 (fun z hz hzg => absurd hz (by omega)))
                  have HX9 := Lib.hid (hf9.box H8.out.2.2.2.2 hg9)
                  have HQ9 : Hid (XR X9 (x3V t5') (at_ (part (many U) (many V) (many E) (F k) done (p1, p2) 2) (p1, p2) + fq * many E)) := by
                    have : XR X9 (x3V t5') (at_ (part (many U) (many V) (many E) (F k) done (p1, p2) 2) (p1, p2) + fq * many E) := by
                      rw [Rat.add_comm]; exact hf8.xr HH.out.2.2
                    exact this
                  clear H8 hf8 hf9 HH HBP HB8 HE8 hg9
                  have u0 : X9.cell? ⟨bto, 0, none⟩ = some (.int .i64 (p1 : Int)) := HX9.out.2 0
                  have u1 : X9.cell? ⟨bto, 1, none⟩ = some (.int .i64 (p2 : Int)) := HX9.out.2 1
                  have g0 : X9.cell? ⟨g, 0, none⟩ = some (.bool t5'.b) := HB9.out.2 0
                  have g1 : X9.cell? ⟨g, 1, none⟩ = some (.slice t5'.a1 t5'.n1 t5'.c1) := HB9.out.2 1
                  have g2 : X9.cell? ⟨g, 2, none⟩ = some (.slice t5'.a2 t5'.n2 t5'.c2) := HB9.out.2 2
                  go_wp2_with (refine wpList_update_a rfl _ _ _ 155 rfl pt_ok Tryz.underlying155 rfl HN9.out.map (p1, p2) rfl (x3V t5') rfl ?_; intro wu hmu htu)
                  clear u0 u1 g0 g1 g2
                  have HF9 : Hid (Fr (fun z => z = wo.heap.size) X9 wu) := Fr.turned htu rfl
                  clear htu
                  go_roundw
                  case rel =>
                    refine ⟨3, putL ln (p1, p2) (x3V t5'), .inr (.inr (.inr ⟨rfl, rfl⟩)), ?_, ?_, ?_, ?_⟩
                    · exact R3.fr HJ9.out HF9.out (by omega) (by omega) (by omega) (by omega) (by omega)
                    · rw [HPT.out]
                      refine Next.put HN9.out HD.out ?_ hmu HF9.out.word
                      exact HF9.out.xr HQ9.out
                    · have h1 := Sum.fr HS9.out HF9.out (by omega)
                      rw [HPT.out, dec_snoc, if_neg (by rw [HD.out]; decide)]
                      exact h1
                    · exact HFF9.out.trans (HF9.out.mono fun z hz => .inr hz)
                  case measure => simp [intOf]
              · have HD : Hid (DEC (p1, p2) = true) := by rw [← HDEC.out]; exact hdv
                clear hdv
                obtain ⟨⟨t0, hB0, hX0⟩, hF0⟩ := hS4
                have s0 : wd.cell? ⟨bs, 0, none⟩ = some (.bool t0.b) := hB0.2 0
                have s1 : wd.cell? ⟨bs, 1, none⟩ = some (.slice t0.a1 t0.n1 t0.c1) := hB0.2 1
                have s2 : wd.cell? ⟨bs, 2, none⟩ = some (.slice t0.a2 t0.n2 t0.c2) := hB0.2 2
                have g0 : wd.cell? ⟨g, 0, none⟩ = some (.bool tq.b) := hB4.2 0
                have g1 : wd.cell? ⟨g, 1, none⟩ = some (.slice tq.a1 tq.n1 tq.c1) := hB4.2 1
                have g2 : wd.cell? ⟨g, 2, none⟩ = some (.slice tq.a2 tq.n2 tq.c2) := hB4.2 2
                have HPL := Lib.hid (xplus_at _ _ _ _ wd hX0 hQ4 HZ.out.1.1 HZ.out.1.2 HZ.out.2.1.1 HZ.out.2.1.2)
                have H5 := Lib.hid (And.intro hJ4 (And.intro hN4 (And.intro hF4 (And.intro hB0 hF0))))
                clear hJ4 hN4 hF4 hX4 hB4 hQ4 hE4 hX0 hB0 hF0
                go_wp2_with fail
                refine HPL.out.mono ?_
                rintro e wp ⟨vp, rfl, hxp5, hbp5⟩
                obtain ⟨t5', rfl, hxp5⟩ := XR.x3 hxp5
                clear s0 s1 s2 g0 g1 g2 HPL
                have hJ6 := H5.out.1.ext hbp5
                have hN6 := Next.ext H5.out.2.1 hbp5
                have hF6 := H5.out.2.2.1.trans (Fr.ext hbp5)
                have hB6 := H5.out.2.2.2.1.ext hbp5
                have hE6 := H5.out.2.2.2.2.ext H5.out.2.2.2.1 hbp5
                clear H5 hbp5
                have s0 : wp.cell? ⟨bs, 0, none⟩ = some (.bool t0.b) := hB6.2 0
                have s1 : wp.cell? ⟨bs, 1, none⟩ = some (.slice t0.a1 t0.n1 t0.c1) := hB6.2 1
                have s2 : wp.cell? ⟨bs, 2, none⟩ = some (.slice t0.a2 t0.n2 t0.c2) := hB6.2 2
                have e0 := hE6 0
                have e1 := hE6 1
                have e2 := hE6 2
                have HF8 : Hid (Fr (fun z => z = bs) wp (((wp.setCell ⟨bs, 0, none⟩ (.bool t5'.b)).setCell ⟨bs, 1, none⟩ (.slice t5'.a1 t5'.n1 t5'.c1)).setCell ⟨bs, 2, none⟩ (.slice t5'.a2 t5'.n2 t5'.c2))) := Fr.set3 hB6 (x3_nw t0) _ _ _ rfl
                have HS8 := Lib.hid (sum_set hB6 hE6 hxp5)
                have H7 := Lib.hid (And.intro hJ6 (And.intro hN6 hF6))
                clear hJ6 hN6 hF6 hB6 hE6 hxp5
                go_wp2
                clear s0 s1 s2 e0 e1 e2
                go_roundw
                case rel =>
                  refine ⟨3, ln, .inr (.inr (.inr ⟨rfl, rfl⟩)), ?_, ?_, ?_, ?_⟩
                  · exact R3.fr H7.out.1 HF8.out (by omega) (by omega) (by omega) (by omega) (by omega)
                  · have h1 := Next.fr H7.out.2.1 HF8.out (by omega)
                    rw [HPT.out]
                    exact Next.skip h1 HD.out
                  · have h1 := HS8.out
                    rw [Rat.add_assoc] at h1
                    rw [HPT.out, dec_snoc, if_pos HD.out]
                    exact h1
                  · exact H7.out.2.2.trans (HF8.out.mono fun z hz => .inl hz)
                case measure => simp [intOf]
            · go_wp2
              go_roundw
              case rel =>
                refine ⟨done ++ [((p1, p2), x3V tp)], ln, ?_, ?_, ?_, ?_⟩
                · exact Fr.range HF2.out JR.out HIN.out.1 HIN.out.2
                · have h1 := HN.out
                  rw [part_three (many U) (many V) (many E) (F k) done ((p1, p2), x3V tp)] at h1
                  exact h1
                · have h1 := HSU.out
                  rw [part_three (many U) (many V) (many E) (F k) done ((p1, p2), x3V tp)] at h1
                  exact h1
                · refine JF.out.trans (HF2.out.mono fun z hz => ?_)
                  rcases hz with hz | hz
                  · exact .inl hz
                  · exact .inr (.inl hz)
              case measure =>
                have h1 := RangeIs.seenN (Fr.range HF2.out JR.out HIN.out.1 HIN.out.2)
                rw [HSN.out, h1, List.length_append, List.length_singleton]
                have := HKP.out.2.2.1
                omega
    · obtain rfl : k = pairs := by omega
      have HXR := HR
      clear HR
      go_wp2
      refine HP.out _ _ ?_
      have h1 := HXR.out
      have hs := Sl.ofOwn h1.own
      obtain ⟨a, cap, hv, h2, h3, h4, h5⟩ := id hs
      rw [hv] at hs
      refine ⟨a, cap, ts, (show Ending.returned u16 = _ by rw [hv]), hs, h1.tl, fun i t ht => ?_, h1.low⟩
      have := h1.tv i t ht
      rw [HS.out, ← HDEC.out] at this
      exact this
end Ch
end Go.Proofs.YtilolnjbpokdnaaGreatDoor
