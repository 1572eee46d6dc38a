/- trim and scaled with rows of the call's own of the reference's natural numbers. -/
import Derived.Test.YtemenlcigengeaaGreatDoorTq26
import Derived.Deep.Cut
namespace Go.Proofs.YtemenlcigengeaaGreatDoor
open Go.RowKit
namespace Nt
def TrimRow (w : World) (base n : Nat) (e : Ending) (w' : World) : Prop := ∃ v, e = .returned v ∧ Row w base v (digs n) ∧ w = w'
def RowPost (w : World) (n : Nat) (e : Ending) (w' : World) : Prop := ∃ v, e = .returned v ∧ Row w' w.heap.size v (digs n) ∧ Below w.heap.size w w'
theorem Row.take {w : World} {base : Nat} {a : Option Addr} {c : Nat} {l : List Nat} (h : Row w base (.slice a l.length c) l) {k : Nat} (hk : k ≤ l.length) : Row w base (.slice a k c) (l.take k) := by
  obtain ⟨h1, h2⟩ := h
  have hlk : (l.take k).length = k := by rw [List.length_take]; omega
  refine ⟨by rw [wcs_length, Nat.mul_one], ?_⟩
  rw [hlk]
  rcases h2 with ⟨h2, h3⟩ | ⟨g, cap, cur, h2, hb, hg, hn, hm, hs, ht⟩
  · injection h2 with i1 i2 i3
    subst i1
    subst i3
    have : k = 0 := by omega
    subst this
    exact .inl ⟨rfl, rfl⟩
  · injection h2 with i1 i2 i3
    subst i1
    subst i3
    refine .inr ⟨g, c, cur, rfl, hb, hg, by omega, hm, hs, ?_⟩
    rw [Nat.mul_one] at ht ⊢
    rw [← wcs_take, ← ht, List.take_take, Nat.min_eq_left hk]
/-- append(out, y), with the place of what comes back, and what else stays -/
theorem wpList_append_wd2 {w : World} {ops : Array Oper} {rest : List Oper} {o : Oper} {a : Act} {Q : Exit → Act → World → Prop} (hgd : o.guard = none) (s x : Operand)
    (ho : o.op = .call { callee := .builtin .append, args := #[s, x], argTypes := #[112, 112] })
    (base : Nat) {v : Value} {l : List Nat} (hs : a.eval s = v) (hown : Row w base v l) {z : Int} (y : Nat) (hx : a.eval x = .slice (some ⟨w.heap.size, 0, none⟩) 1 1) (hz : z = (y : Int))
    (hn : l.length ≤ 10000000000) (hbase : base ≤ w.heap.size)
    (h : ∀ v' w', Row w' base v' (l ++ [y]) → Below base w w' → (∀ k, k < w.heap.size → v.ownBlock ≠ some k → w'.heap[k]? = w.heap[k]?) → (v'.ownBlock = v.ownBlock ∨ ∃ k, v'.ownBlock = some k ∧ w.heap.size < k) → wpList Tryz.prog ops Q rest (a.put o.dst v') w') : wpList Tryz.prog ops Q (o :: rest) a (w.alloc (.cells #[.int .i64 z] 3)) := by
  subst hz
  refine wpList_plain hgd fun K hK => ?_
  obtain ⟨i, hi, hz0, hz1, hz2⟩ := info_parts i64_info
  have hown2 : (w.alloc (.cells #[.int .i64 (y : Int)] 3)).ownsRow base 3 1 v l.length (wcs l) := ownsRow_ext hown (ext_alloc _ _)
  obtain ⟨v', w', hr, h2, h3, _, h5⟩ := run_append_own_at (P := Tryz.prog) _ base _ o.type 3 i _ 1 8 Tryz.underlying112 hi hz0 hz1 hz2 rfl (by decide) v l.length (wcs l) hown2 ⟨w.heap.size, 0, none⟩ 1 1 [.int .i64 (y : Int)] rfl (fun j u hu => by
    cases j with
    | zero => cases hu; simp [Addr.add]
    | succ j => simp at hu) (by intro u hu; simp at hu; subst hu; rfl) (by unfold maxLen; omega) (by omega) (by simp; omega)
  unfold Oper.wp execOp
  simp only [ho, resolve, invoke, builtin, Sem.run_bind, Sem.run_pure, Result.andThen_ok, List.map_toArray, List.map_cons, List.map_nil, hs, hx, hr]
  refine hK _ _ (h v' w' ?_ ?_ (fun k hk hne => ?_) ?_)
  · unfold Row
    rw [List.length_append, List.length_singleton]
    have e : wcs (l ++ [y]) = wcs l ++ [.int .i64 (y : Int)] := by simp [wcs, wc]
    rw [e]; exact h2
  · exact ((ext_alloc w _).mono hbase).trans (Below.grown (Below.refl base _) h3 (by simp; omega) (fun k hk => (World.ownsRow.lt hown k hk).1))
  · exact (h3.block k (by simp; omega) (fun e => hne e.symm)).trans ((ext_alloc w _).block k hk)
  · rcases h5 with h5 | h5
    · exact .inl h5
    · exact .inr ⟨_, h5, by simp⟩
set_option maxHeartbeats 2000000 in
theorem trim_row (l : List Nat) (hd : Dg l) (v : Value) (w : World) (base : Nat) (hro : Row w base v l) : Calls Tryz.prog 111 #[v] w (TrimRow w base (val l)) := by
  have hs := hro.sl
  obtain ⟨a, c, rfl, hs0⟩ := id hs
  have HRO := Lib.hid hro
  clear hro
  obtain ⟨hc1, hc2⟩ := sl_caps hs
  have HD := Lib.hid hd
  clear hd hs0
  go_enter Tryz.func111, Tryz.ntmps111
  go_wp2
  go_loop [3] (fun t => ∃ k : Nat, k ≤ l.length ∧ t = .int .i64 k ∧ Hid (val (l.take k) = val l)) (fun t => (intOf t).toNat)
  case atStart => exact ⟨l.length, by omega, rfl, by have : val (l.take l.length) = val l := by rw [List.take_length]
                                                     exact this⟩
  case round =>
    obtain ⟨k, hk, rfl, HV⟩ := hrel
    cases k with
    | zero =>
      go_wp2
      go_ret
      refine ⟨_, rfl, ?_, rfl⟩
      have e := digs_take HD.out (k := 0) (by omega) HV.out (fun j hj h => by omega)
      rw [e]
      exact HRO.out.take (Nat.zero_le _)
    | succ j =>
      have hj : j < l.length := by omega
      obtain ⟨b, o, rfl, e0⟩ := sl_addr hs (wcs_get hj)
      by_cases hz : l[j] = 0
      · have HV2 := Lib.hid (val_take_zero hj HV.out hz)
        rw [hz] at e0
        clear hz
        go_wp2
        go_round
        case rel => exact ⟨j, by omega, by go_num, HV2⟩
        case measure => simp [intOf]
      · have hne : ((l[j] : Int) == 0) = false := by simp; omega
        have HZ := Lib.hid hz
        clear hz
        go_wp2
        go_ret
        refine ⟨_, rfl, ?_, rfl⟩
        have e := digs_take HD.out (k := j + 1) (by omega) HV.out (fun i hi h => by obtain rfl : i = j := (by omega); exact HZ.out)
        rw [e]
        exact HRO.out.take hj
theorem N.ofRow {w : World} {base : Nat} {v : Value} {n : Nat} (h : Row w base v (digs n)) : N w v n := h.sl
set_option maxRecDepth 100000 in
set_option maxHeartbeats 4000000 in
theorem scaled_row (x f : Nat) (v : Value) (w : World) (hx : N w v x) (hf0 : 0 < f) (hf : f ≤ 1000000000) (hxl : wlen x ≤ 1000000000) : Calls Tryz.prog 133 #[v, .int .i64 (f : Int)] w (RowPost w (x * f)) := by
  obtain ⟨a, c, rfl, s1⟩ := hx.open_
  obtain ⟨p1, p2⟩ := sl_caps s1
  have HX := Lib.hid (digs_dg x)
  unfold wlen at hxl
  have HZ0 : Hid (([] : List Nat).length = 0) := by
    have : ([] : List Nat).length = 0 := rfl
    exact this
  have HZ : Hid (val [] + B ^ 0 * 0 = val ((digs x).take 0) * f) := by
    have : val [] + B ^ 0 * 0 = val ((digs x).take 0) * f := by simp [val]
    exact this
  clear hx
  go_enter Tryz.func133, Tryz.ntmps133
  go_wp2
  go_loopw [5, 6, 11] (fun ov cv iv wr => ∃ (k cr : Nat) (l : List Nat), k ≤ (digs x).length ∧ iv = .int .i64 k ∧ cv = .int .i64 cr ∧ cr < f ∧ Hid (l.length = k) ∧ Hid (Dg l) ∧ Hid (val l + B ^ k * cr = val ((digs x).take k) * f) ∧ Row wr w.heap.size ov l ∧ Below w.heap.size w wr) (fun _ _ iv _ => (digs x).length - (intOf iv).toNat)
  case atStart => exact ⟨0, 0, [], Nat.zero_le _, rfl, rfl, hf0, HZ0, Dg.nil, HZ, Row.nil _ _, Below.refl _ _⟩
  case round =>
    obtain ⟨k, cr, l, hk, rfl, rfl, hcr, HL, HDg, HV, hr, hb⟩ := hrel
    have hle := hb.size
    have hll : l.length ≤ 10000000000 := by rw [HL.out]; omega
    by_cases hlx : k < (digs x).length
    · have hV1 := val_take_succ (digs x) k hlx
      obtain ⟨b, o, rfl, e0⟩ := sl_addr (s1.ext hb) (wcs_get hlx)
      have hX := HX.out.get hlx
      generalize (digs x)[k] = X at *
      rw [B_eq] at hX
      obtain ⟨hm1, hm2⟩ := mul_le' hX hf
      have HM : Hid (((X * f : Nat) : Int) = (X : Int) * (f : Int)) := by
        have : ((X * f : Nat) : Int) = (X : Int) * (f : Int) := Int.natCast_mul _ _
        exact this
      have HR : Hid (val (l ++ [(X * f + cr) % 1000000000]) + B ^ (k + 1) * ((X * f + cr) / 1000000000) = val ((digs x).take (k + 1)) * f) := by
        have h1 := scale_step (X := X) (z := (X * f + cr) % 1000000000) (q := (X * f + cr) / 1000000000) HV.out (by rw [B_eq]; exact Nat.mod_add_div _ _)
        have : val (l ++ [(X * f + cr) % 1000000000]) + B ^ (k + 1) * ((X * f + cr) / 1000000000) = val ((digs x).take (k + 1)) * f := by
          rw [val_append, HL.out, hV1, ← h1, Nat.pow_succ]; simp [val]
        exact this
      have HL2 : Hid ((l ++ [(X * f + cr) % 1000000000]).length = k + 1) := by
        have : (l ++ [(X * f + cr) % 1000000000]).length = k + 1 := by rw [List.length_append, HL.out]; rfl
        exact this
      have HD2 : Hid (Dg (l ++ [(X * f + cr) % 1000000000])) := by
        have : Dg (l ++ [(X * f + cr) % 1000000000]) := HDg.out.append (Dg.cons.2 ⟨Nat.mod_lt _ B_pos, Dg.nil⟩)
        exact this
      have hcl := carry_lt (c := cr) hX hcr
      clear hV1
      go_wp2_with (at_builtin; refine wpList_append_wd rfl _ _ rfl w.heap.size rfl hr ((X * f + cr) % 1000000000) rfl (by have := HM.out; omega) hll hle ?_; intro v' w' hr' hb')
      go_roundw
      case rel => exact ⟨k + 1, (X * f + cr) / 1000000000, _, by omega, by go_num, by rw [← HM.out]; go_num, hcl, HL2, HD2, HR, hr', hb.trans hb'⟩
      case measure => simp [intOf] <;> omega
    · obtain rfl : k = (digs x).length := by omega
      have HE : Hid (val l + B ^ l.length * cr = x * f) := by
        have h1 := HV.out
        rw [List.take_length, val_digs] at h1
        have : val l + B ^ l.length * cr = x * f := by rw [HL.out]; exact h1
        exact this
      have hcr2 : cr < 1000000000 := by omega
      have hl2 : l.length ≤ 1000000000 := by rw [HL.out]; exact hxl
      clear HV HL hcr hll hle
      go_wp2
      go_loopw [5, 6] (fun ov cv wr => ∃ (cr : Nat) (l : List Nat), cv = .int .i64 cr ∧ cr < 1000000000 ∧ (l.length ≤ 1000000000 ∨ (cr = 0 ∧ l.length ≤ 1000000001)) ∧ Hid (Dg l) ∧ Hid (val l + B ^ l.length * cr = x * f) ∧ Row wr w.heap.size ov l ∧ Below w.heap.size w wr) (fun _ cv _ => (intOf cv).toNat)
      case atStart => exact ⟨cr, l, rfl, hcr2, .inl hl2, HDg, HE, hr, hb⟩
      case round =>
        clear hr hb HE HDg hcr2 hl2
        obtain ⟨cr, l, rfl, hcr, hll, HDg, HE, hr, hb⟩ := hrel
        have hle := hb.size
        have hl3 : l.length ≤ 10000000000 := by omega
        by_cases h0 : 0 < cr
        · have HE2 : Hid (val (l ++ [cr]) + B ^ (l ++ [cr]).length * 0 = x * f) := by
            have : val (l ++ [cr]) + B ^ (l ++ [cr]).length * 0 = x * f := by rw [val_append, ← HE.out]; simp [val]
            exact this
          have HD2 : Hid (Dg (l ++ [cr])) := by
            have : Dg (l ++ [cr]) := HDg.out.append (Dg.cons.2 ⟨hcr, Dg.nil⟩)
            exact this
          have HL2 : Hid ((l ++ [cr]).length = l.length + 1) := by
            have : (l ++ [cr]).length = l.length + 1 := by rw [List.length_append]; rfl
            exact this
          have hl4 : l.length + 1 ≤ 1000000001 := by omega
          go_wp2_with (at_builtin; refine wpList_append_wd rfl _ _ rfl w.heap.size rfl hr cr rfl (by omega) hl3 hle ?_; intro v' w' hr' hb')
          go_roundw
          case rel => exact ⟨0, l ++ [cr], by go_num, by omega, .inr ⟨rfl, by rw [HL2.out]; exact hl4⟩, HD2, HE2, hr', hb.trans hb'⟩
          case measure => simp [intOf] <;> omega
        · obtain rfl : cr = 0 := by omega
          have HF : Hid (val l = x * f) := by
            have := HE.out
            rw [Nat.mul_zero, Nat.add_zero] at this
            exact this
          clear HE
          have hT := trim_row l HDg.out _ _ _ hr
          rw [HF.out] at hT
          go_wp2_with fail
          refine Calls.mono hT ?_
          rintro e w' ⟨v, rfl, hv, rfl⟩
          clear hT
          go_wp2
          go_ret
          exact ⟨_, rfl, hv, hb⟩
end Nt
end Go.Proofs.YtemenlcigengeaaGreatDoor
