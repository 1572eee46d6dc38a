/- text of the program's reader. Printed by gen_rdh.py. -/
import Derived.Test.YtbhcfmdogdaodaaGreatDoorRz12
import Derived.Laws.IdiomStrings
import Derived.Laws.BytesArg
import Derived.Lib.SmallJoins
namespace Go.Proofs.YtbhcfmdogdaodaaGreatDoor
open Go.RowKit
namespace Fd
open _root_.Go.Proofs.YtbhcfmdogdaodaaGreatDoor.Nm
open _root_.Go.Proofs.YtbhcfmdogdaodaaGreatDoor.Nt (RH RH.cell RH.box RH.lt RH.new RH.ext RH.fre RH.set RH.other)
open _root_.Go.Proofs.YtbhcfmdogdaodaaGreatDoor.Tx (stB)
theorem gr_own {w0 w w' : World} {r q : Option Nat} (h : w0.grownBy w r) (hg : w.grownBy w' q) (hq : ∀ k, q = some k → w0.heap.size ≤ k) : w0.grownBy w' r :=
  ⟨hg.os.trans h.os, hg.tape.trans h.tape, hg.output.trans h.output, Nat.le_trans h.size hg.size, fun k hk hr => (hg.block k (Nat.lt_of_lt_of_le hk h.size) (fun e => by have := hq k e.symm; omega)).trans (h.block k hk hr)⟩
theorem u8_inf : (Tryz.prog.info? 5).map (fun i => (i.zero, i.size, i.bytes)) = some (some (.int .u8 0), 1, 1) := by kernel_rfl
/-- bytes in a row of the call's own -/
def BR (w : World) (base : Nat) (v : Value) (l : List UInt8) : Prop := w.ownsRow base 5 1 v l.length (bcells l)
section
variable {w w' : World} {base rb : Nat} {v : Value} {l : List UInt8}
theorem BR.nil (w : World) (base : Nat) : BR w base (.slice none 0 0) [] := World.ownsRow_nil w base _ _
theorem BR.kept (h : BR w base v l) (hg : w.grownBy w' (some rb)) (hrb : rb < base) : BR w' base v l := World.ownsRow.kept h hg (.inr (fun e => by have := (World.ownsRow.lt h rb e).1; omega))
theorem BR.ne (h : BR w base v l) (hrb : rb < base) : some rb ≠ v.ownBlock := fun e => by have := (World.ownsRow.lt h rb e.symm).1; omega
theorem BR.ge (h : BR w base v l) : ∀ k, v.ownBlock = some k → base ≤ k := fun k e => (World.ownsRow.lt h k e).1
theorem BR.conv (h : BR w base v l) : (convert 55 9 v).run Tryz.prog w = .ok (.string (stB l)) w := by
  rcases Joins.ownsRow_forms h with ⟨rfl, hn⟩ | ⟨g, cap, rfl⟩
  · have e : l = [] := List.length_eq_zero_iff.1 hn
    subst e
    exact run_convert_bytes_nil w _ 5 Tryz.underlying55 Tryz.underlying5 0 0 _ Tryz.underlying9
  · exact run_convert_bytes_back w _ _ 5 ⟨g, 0, none⟩ cap l Tryz.underlying55 Tryz.underlying5 Tryz.underlying9 (fun j hj => World.ownsRow.cells h rfl j _ (bcells_get l j hj))
end
/-- append(b, c) -/
theorem wpList_append_bt {w : World} {ops : Array Oper} {rest : List Oper} {o : Oper} {a : Act} {Q : Exit → Act → World → Prop} (hgd : o.guard = none) (s x : Operand)
    (ho : o.op = .call { callee := .builtin .append, args := #[s, x], argTypes := #[55, 55] })
    (base : Nat) {v : Value} {l : List UInt8} (hs : a.eval s = v) (hown : BR w base v l) (c : UInt8) (hx : a.eval x = .slice (some ⟨w.heap.size, 0, none⟩) 1 1)
    (hn : l.length ≤ 1000000) (hbase : base ≤ w.heap.size)
    (h : ∀ v' w', BR w' base v' (l ++ [c]) → (w.alloc (.cells #[.int .u8 (c.toNat : Int)] 5)).grownBy w' v.ownBlock → wpList Tryz.prog ops Q rest (a.put o.dst v') w') : wpList Tryz.prog ops Q (o :: rest) a (w.alloc (.cells #[.int .u8 (c.toNat : Int)] 5)) := by
  refine wpList_append_sl hgd s x _ ho base 5 Tryz.underlying55 u8_inf rfl (by decide) hs (ownsRow_ext hown (ext_alloc _ _)) hx (Sl.new w #[.int .u8 (c.toNat : Int)] _ 1 1 (by omega) (by decide)) rfl (by intro u hu; simp at hu; subst hu; rfl) (by unfold maxLen; omega) (by omega) (by simp; omega) (fun v' w' h1 h2 _ => ?_)
  refine h v' w' ?_ h2
  unfold BR
  rw [List.length_append, List.length_singleton]
  have e : bcells (l ++ [c]) = bcells l ++ [.int .u8 (c.toNat : Int)] := by rw [bcells_append]; rfl
  rw [e]; exact h1
theorem textP_no {s : ByteArray} {a : Nat} (h : ∀ h : a < s.size, (s[a].toNat : Int) ≠ 34) : textP (dr s a) = .bad (dr s a) 10 := by
  unfold textP
  rw [sign_not (c := 34) h]; rfl
theorem textP_ok {s : ByteArray} {a : Nat} (hlt : a < s.size) (h : (s[a].toNat : Int) = 34) : textP (dr s a) = txtP ((dr s (a + 1)).length + 1) [] (dr s (a + 1)) := by
  unfold textP
  rw [sign_is (c := 34) hlt h]; rfl
theorem t_bad {f : Nat} {acc : List UInt8} {s : ByteArray} {b : Nat} (h : s.size ≤ b ∨ pk s b < 32 ∨ 126 < pk s b) : txtP (f + 1) acc (dr s b) = .bad (dr s b) 10 := by
  by_cases hlt : b < s.size
  · rw [pk_lt hlt] at h
    rw [dr_lt hlt, txtP, if_pos (by omega)]
  · rw [dr_ge (by omega), txtP]
theorem t_quo {f : Nat} {acc : List UInt8} {s : ByteArray} {b : Nat} (hlt : b < s.size) (h : pk s b = 34) : txtP (f + 1) acc (dr s b) = .ok acc (dr s (b + 1)) := by
  rw [pk_lt hlt] at h
  rw [dr_lt hlt, txtP, if_neg (by omega), if_pos (UInt8.toNat_inj.1 (by show _ = 34; omega))]
theorem t_esc {f : Nat} {acc : List UInt8} {s : ByteArray} {b : Nat} (hlt : b < s.size) (h : pk s b = 92) : txtP (f + 1) acc (dr s b) = (match escP (dr s (b + 1)) with
      | .bad q e => .bad q e
      | .ok v q => txtP f (acc ++ [v]) q) := by
  rw [pk_lt hlt] at h
  have e : s[b] = 92 := UInt8.toNat_inj.1 (by show _ = 92; omega)
  rw [dr_lt hlt, txtP, if_neg (by omega), if_neg (by rw [e]; decide), if_pos e]
  cases escP (dr s (b + 1)) <;> rfl
theorem t_chr {f : Nat} {acc : List UInt8} {s : ByteArray} {b : Nat} (hlt : b < s.size) (h1 : 32 ≤ pk s b) (h2 : pk s b ≤ 126) (h3 : pk s b ≠ 34) (h4 : pk s b ≠ 92) : txtP (f + 1) acc (dr s b) = txtP f (acc ++ [s[b]]) (dr s (b + 1)) := by
  rw [pk_lt hlt] at h1 h2 h3 h4
  rw [dr_lt hlt, txtP, if_neg (by omega), if_neg (fun e => h3 (by rw [e]; rfl)), if_neg (fun e => h4 (by rw [e]; rfl))]
/-- what text answers -/
def TxtPost (s : ByteArray) (rb : Nat) (i : Int) (w : World) (x : Res (List UInt8)) (e : Ending) (w' : World) : Prop := ∃ l : List UInt8, l.length ≤ s.size ∧ e = .returned (.string (stB l)) ∧ (∀ v r, x = .ok v r → v = l) ∧ AftS s rb i w w' x
theorem TxtPost.bad {s : ByteArray} {rb : Nat} {i : Int} {w w' : World} {x : Res (List UInt8)} {q : List UInt8} {er : Int} (hx : x = .bad q er) (h : BadS s rb w w' q er) : TxtPost s rb i w x (.returned (.string ⟨#[]⟩)) w' := by
  subst hx
  exact ⟨[], Nat.zero_le _, rfl, (fun v r e => by cases e), h⟩
def tMeas (w : World) (rb n : Nat) : Nat := if intOf ((w.cell? ⟨rb, 2, none⟩).getD undef) = 0 then 1 + (n - (intOf ((w.cell? ⟨rb, 1, none⟩).getD undef)).toNat) else 0
theorem tMeas_at {w : World} {rb n k : Nat} {s : ByteArray} {e i : Int} (h : RD w rb s k e i) : tMeas w rb n = if e = 0 then 1 + (n - k) else 0 := by
  unfold tMeas
  rw [meas h, h.c.2.2.1]; rfl
theorem tMeas_ok {w : World} {rb n k : Nat} {s : ByteArray} {i : Int} (h : RD w rb s k 0 i) : tMeas w rb n = 1 + (n - k) := by rw [tMeas_at h, if_pos rfl]
theorem tMeas_bad {w : World} {rb n k : Nat} {s : ByteArray} {e i : Int} (h : RD w rb s k e i) (he : e ≠ 0) : tMeas w rb n = 0 := by rw [tMeas_at h, if_neg he]
theorem hexP_len : ∀ (k n : Nat) (l : List UInt8) (m : Nat) (q : List UInt8), hexP k n l = .ok m q → q.length ≤ l.length
  | 0, n, l, m, q, h => by rw [hexP] at h; cases h; exact Nat.le_refl _
  | k + 1, n, [], m, q, h => by rw [hexP] at h; cases h
  | k + 1, n, c :: r, m, q, h => by
    rw [hexP] at h
    cases hd : hexd c with
    | none => rw [hd] at h; cases h
    | some d =>
      rw [hd] at h
      have := hexP_len k _ r m q h
      rw [List.length_cons]; omega
theorem escP_len {l : List UInt8} {v : UInt8} {q : List UInt8} (h : escP l = .ok v q) : q.length < l.length := by
  cases l with
  | nil => rw [escP] at h; cases h
  | cons c r =>
    rw [escP] at h
    rw [List.length_cons]
    split at h
    · cases h; omega
    · split at h
      · cases hx : hexP 4 0 r with
        | bad q' e => rw [hx] at h; cases h
        | ok n q' =>
          rw [hx] at h
          simp only at h
          split at h
          · cases h
          · cases h
            have := hexP_len _ _ _ _ _ hx
            omega
      · cases h
/-- where the loop stands -/
def TGood (s : ByteArray) (rb : Nat) (i : Int) (w : World) (x : Res (List UInt8)) (v : Value) (W : World) : Prop := ∃ (acc : List UInt8) (b f : Nat), acc.length ≤ b ∧ b ≤ s.size ∧ s.size - b < f ∧ txtP f acc (dr s b) = x ∧ BR W w.heap.size v acc ∧ RD W rb s b 0 i ∧ w.grownBy W (some rb)
def TBad (s : ByteArray) (rb : Nat) (w : World) (x : Res (List UInt8)) (W : World) : Prop := ∃ q er, x = .bad q er ∧ BadS s rb w W q er
/-- behind an append to the call's own row -/
theorem own_step {w X X6 : World} {rb : Nat} {v : Value} {l : List UInt8} {c : UInt8} (hrb : rb < w.heap.size) (hr : BR X w.heap.size v l) (hg : w.grownBy X (some rb)) (h6 : (X.alloc (.cells #[.int .u8 (c.toNat : Int)] 5)).grownBy X6 v.ownBlock) :
    w.grownBy X6 (some rb) ∧ ∀ (s : ByteArray) (k : Nat) (e i : Int), RD X rb s k e i → RD X6 rb s k e i :=
  ⟨gr_own (hg.trans (gr_below (ext_alloc X _) (some rb))) h6 hr.ge, fun _ _ _ _ h => (h.ext (ext_alloc X _)).grown h6 (hr.ne hrb)⟩
set_option maxRecDepth 100000 in
set_option maxHeartbeats 8000000 in
theorem text_at (rb : Nat) (s : ByteArray) (a : Nat) (i : Int) (w : World) (h : RD w rb s a 0 i) (hs : s.size ≤ 1000000) (ha : a ≤ s.size) : Calls Tryz.prog 19 #[.pointer (some ⟨rb, 0, none⟩)] w (TxtPost s rb i w (textP (dr s a))) := by
  have hs1 : (s.size : Int) ≤ 1000000 := by omega
  have HR := Lib.hid h
  have HRB : Hid (rb < w.heap.size) := Lib.hid h.lt
  obtain ⟨x, hx⟩ : ∃ x, textP (dr s a) = x := ⟨_, rfl⟩
  have HX := Lib.hid hx
  have HA := Lib.hid ha
  rw [hx]
  clear h hx ha
  go_enter Tryz.func19, Tryz.ntmps19
  by_cases hc : ∃ h : a < s.size, (s[a].toNat : Int) = 34
  · obtain ⟨hlt, hc⟩ := hc
    have HX2 := Lib.hid ((textP_ok hlt hc).symm.trans HX.out)
    have HLT := Lib.hid hlt
    have HC := Lib.hid hc
    clear hc
    go_wp2_with fail
    refine (sign_ok rb s a i 34 w HR.out hs HLT.out HC.out).mono ?_
    rintro e W ⟨rfl, hR, hg⟩
    have HT0 : Hid (TGood s rb i w x (.slice none 0 0) W) := Lib.hid ⟨[], a + 1, _, Nat.zero_le _, HLT.out, by have := HLT.out; rw [dr_len HLT.out]; omega, HX2.out, BR.nil W _, hR, hg⟩
    clear hR hg HX2 HC
    go_wp2_with fail
    go_loopw [3] (fun v wr => Hid (TGood s rb i w x v wr) ∨ Hid (TBad s rb w x wr)) (fun _ wr => tMeas wr rb s.size)
    case atStart => exact .inl HT0
    case round =>
      clear HT0
      rcases hrel with HT | HT
      · obtain ⟨acc, b, f, hab, hbs, hf, hx2, hrow, hR, hg⟩ := HT.out
        cases f with
        | zero => omega
        | succ f =>
        generalize hXX : wr = X at *
        clear hXX HT
        have HXT := Lib.hid hx2
        have HROW := Lib.hid hrow
        have HR1 := Lib.hid hR
        have HG1 := Lib.hid hg
        have HF := Lib.hid hf
        have HAB := Lib.hid hab
        have HBS := Lib.hid hbs
        have hbi : (b : Int) ≤ 1000000 := by omega
        have HM := Lib.hid (tMeas_ok (n := s.size) hR)
        clear hx2 hrow hR hg hf hab hbs
        obtain ⟨c0, c1, c2, c3⟩ := HR1.out.c
        go_wp2_with fail
        clear c0 c1 c2 c3
        refine (peek_q rb s b 0 i X HR1.out hs).mono ?_
        rintro e X2 ⟨rfl, hR, hg, -⟩
        have HR2 := Lib.hid hR
        have HG2 := Lib.hid (HG1.out.trans hg)
        have HROW2 := Lib.hid (HROW.out.kept hg HRB.out)
        clear hR hg HR1 HG1 HROW
        obtain ⟨p, hp⟩ : ∃ p, pk s b = p := ⟨_, rfl⟩
        have HP := Lib.hid hp
        have hpb := pk_bd s b
        rw [hp] at hpb ⊢
        clear hp
        obtain ⟨c0, c1, c2, c3⟩ := HR2.out.c
        by_cases hlt : b < s.size
        · have hle : decide ((s.size : Int) ≤ (b : Int)) = false := decide_eq_false (by omega)
          have HLT := Lib.hid hlt
          have HPC : Hid (p = (s[b].toNat : Int)) := Lib.hid (HP.out.symm.trans (pk_lt hlt))
          by_cases hp1 : p < 32
          · have hp1d : decide (p < 32) = true := decide_eq_true hp1
            have HXB : Hid (x = .bad (dr s b) 10) := Lib.hid (by rw [← HXT.out, t_bad (.inr (.inl (by rw [HP.out]; exact hp1)))])
            go_upto_region 9 with (fail)
            go_quiet (fail)
            have hR := HR2.out.ext (below_drewN (Below.refl _ _) nq)
            have hg := gr_below (below_drewN (Below.refl X2.heap.size X2) nq) (some rb)
            have HR3 := Lib.hid hR
            have HG3 := Lib.hid (HG2.out.trans hg)
            have HROW3 := Lib.hid (HROW2.out.kept hg HRB.out)
            clear hR hg c0 c1 c2 c3 HR2 HG2 HROW2
            generalize X2.drewN nq = X3 at *
            obtain ⟨c0, c1, c2, c3⟩ := HR3.out.c
            go_wp2_with fail
            refine (fail_ok rb s b b 10 i X3 HR3.out hs HBS.out rfl).mono ?_
            rintro e Wz ⟨rfl, hR, hg⟩
            have HTB : Hid (TBad s rb w x Wz) := Lib.hid ⟨_, _, HXB.out, BadS.at hR HBS.out (HG3.out.trans hg)⟩
            have HM2 := Lib.hid (tMeas_bad (n := s.size) hR (by decide))
            clear hR hg c0 c1 c2 c3
            go_wp2_with fail
            go_roundw
            case rel => exact .inr HTB
            case measure => rw [HM.out, HM2.out]; omega
          · have hp1d : decide (p < 32) = false := decide_eq_false hp1
            by_cases hp2 : 126 < p
            · have hp2d : decide (126 < p) = true := decide_eq_true hp2
              have HXB : Hid (x = .bad (dr s b) 10) := Lib.hid (by rw [← HXT.out, t_bad (.inr (.inr (by rw [HP.out]; exact hp2)))])
              go_upto_region 9 with (fail)
              go_quiet (fail)
              have hR := HR2.out.ext (below_drewN (Below.refl _ _) nq)
              have hg := gr_below (below_drewN (Below.refl X2.heap.size X2) nq) (some rb)
              have HR3 := Lib.hid hR
              have HG3 := Lib.hid (HG2.out.trans hg)
              have HROW3 := Lib.hid (HROW2.out.kept hg HRB.out)
              clear hR hg c0 c1 c2 c3 HR2 HG2 HROW2
              generalize X2.drewN nq = X3 at *
              obtain ⟨c0, c1, c2, c3⟩ := HR3.out.c
              go_wp2_with fail
              refine (fail_ok rb s b b 10 i X3 HR3.out hs HBS.out rfl).mono ?_
              rintro e Wz ⟨rfl, hR, hg⟩
              have HTB : Hid (TBad s rb w x Wz) := Lib.hid ⟨_, _, HXB.out, BadS.at hR HBS.out (HG3.out.trans hg)⟩
              have HM2 := Lib.hid (tMeas_bad (n := s.size) hR (by decide))
              clear hR hg c0 c1 c2 c3
              go_wp2_with fail
              go_roundw
              case rel => exact .inr HTB
              case measure => rw [HM.out, HM2.out]; omega
            · have hp2d : decide (126 < p) = false := decide_eq_false hp2
              go_upto_region 9 with (fail)
              go_quiet (fail)
              have hR := HR2.out.ext (below_drewN (Below.refl _ _) nq)
              have hg := gr_below (below_drewN (Below.refl X2.heap.size X2) nq) (some rb)
              have HR3 := Lib.hid hR
              have HG3 := Lib.hid (HG2.out.trans hg)
              have HROW3 := Lib.hid (HROW2.out.kept hg HRB.out)
              clear hR hg c0 c1 c2 c3 HR2 HG2 HROW2
              generalize X2.drewN nq = X3 at *
              by_cases hq : p = 34
              · have hqb : (p == 34) = true := by simpa using hq
                have HXO : Hid (x = .ok acc (dr s (b + 1))) := Lib.hid (by rw [← HXT.out, t_quo HLT.out (HP.out.trans hq)])
                have HPQ := Lib.hid hq
                clear hq
                obtain ⟨c0, c1, c2, c3⟩ := HR3.out.c
                have z1 := HR3.out.z 1
                have HCV : Hid ((convert 55 9 u3).run Tryz.prog (X3.setCell ⟨rb, 1, none⟩ (.int .i64 ((b : Int) + 1))) = .ok (.string (stB acc)) (X3.setCell ⟨rb, 1, none⟩ (.int .i64 ((b : Int) + 1)))) := Lib.hid (HROW3.out.kept (gr_set X3 rb 1 (.int .i64 ((b : Int) + 1))) HRB.out).conv
                have hcv := HCV.out
                have HFI : Hid (TxtPost s rb i w x (.returned (.string (stB acc))) (X3.setCell ⟨rb, 1, none⟩ (.int .i64 ((b : Int) + 1)))) := Lib.hid ⟨acc, by have := HAB.out; have := HBS.out; omega, rfl, (fun v r e => by rw [HXO.out] at e; cases e; rfl), by rw [HXO.out]; exact ⟨b + 1, HLT.out, rfl, HR3.out.next (b + 1), HG3.out.trans (gr_set X3 rb 1 (.int .i64 ((b : Int) + 1)))⟩⟩
                go_wp2_with fail
                (try simp only [Exit.inBlock, Exit.then])
                go_ret
                exact HFI.out
              · have hqb : (p == 34) = false := by simpa using hq
                by_cases he : p = 92
                · have hee : (p == 92) = true := by simpa using he
                  have HXE := Lib.hid (HXT.out.symm.trans (t_esc (f := f) (acc := acc) HLT.out (HP.out.trans he)))
                  clear hq he
                  obtain ⟨c0, c1, c2, c3⟩ := HR3.out.c
                  have z1 := HR3.out.z 1
                  have hg := gr_set X3 rb 1 (.int .i64 ((b : Int) + 1))
                  have HR4 : Hid (RD (X3.setCell ⟨rb, 1, none⟩ (.int .i64 ((b : Int) + 1))) rb s (b + 1) 0 i) := Lib.hid (HR3.out.next (b + 1))
                  have HG4 := Lib.hid (HG3.out.trans hg)
                  have HROW4 := Lib.hid (HROW3.out.kept hg HRB.out)
                  clear hg
                  go_wp2_with fail
                  clear c0 c1 c2 c3 z1 HR3 HG3 HROW3
                  generalize X3.setCell ⟨rb, 1, none⟩ (.int .i64 ((b : Int) + 1)) = X4 at *
                  refine (esc_at rb s (b + 1) i X4 HR4.out hs HLT.out).mono ?_
                  rintro e X5 ⟨ch, rfl, hch, hA⟩
                  have HCH := Lib.hid hch
                  have HAE := Lib.hid hA
                  have hg := aft_g hA
                  have HG5 := Lib.hid (HG4.out.trans hg)
                  have HROW5 := Lib.hid (HROW4.out.kept hg HRB.out)
                  clear hch hA hg
                  obtain ⟨y, hy⟩ : ∃ y, escP (dr s (b + 1)) = y := ⟨_, rfl⟩
                  have HY := Lib.hid hy
                  rw [hy] at HXE HCH HAE
                  clear hy
                  have HK : Hid (∀ v6 X6, BR X6 w.heap.size v6 (acc ++ [ch]) → (X5.alloc (.cells #[.int .u8 (ch.toNat : Int)] 5)).grownBy X6 u3.ownBlock → ((Hid (TGood s rb i w x v6 X6) ∨ Hid (TBad s rb w x X6)) ∧ tMeas X6 rb s.size < tMeas X rb s.size)) := Lib.hid (fun v6 X6 hr hb => by
                    obtain ⟨hg6, h6⟩ := own_step HRB.out HROW5.out HG5.out hb
                    have hA := HAE.out
                    have hXE := HXE.out
                    have hCH := HCH.out
                    have hY := HY.out
                    rw [HM.out]
                    cases y with
                    | ok v q =>
                      obtain ⟨a', ha', hq, hRa, _⟩ := hA
                      have hv := hCH v q rfl
                      subst hv
                      have hl := escP_len hY
                      rw [← hq, dr_len ha', dr_len (show b + 1 ≤ s.size from HLT.out)] at hl
                      refine ⟨.inl (Lib.hid ⟨acc ++ [v], a', f, ?_, ha', ?_, ?_, hr, h6 _ _ _ _ hRa, hg6⟩), ?_⟩
                      · rw [List.length_append, List.length_singleton]; have := HAB.out; omega
                      · have := HF.out; omega
                      · rw [hq]; exact hXE.symm
                      · rw [tMeas_ok (h6 _ _ _ _ hRa)]; omega
                    | bad q er =>
                      obtain ⟨a', ha', hne, hRa, _⟩ := hA
                      refine ⟨.inr (Lib.hid ⟨q, er, hXE, a', ha', hne, h6 _ _ _ _ hRa, hg6⟩), ?_⟩
                      rw [tMeas_bad (h6 _ _ _ _ hRa) hne]; omega)
                  go_wp2_with (at_builtin; refine wpList_append_bt rfl _ _ rfl w.heap.size rfl HROW5.out ch rfl (by have := HAB.out; have := HBS.out; omega) HG5.out.size ?_; intro v6 X6 hr hb)
                  obtain ⟨hrel, hme⟩ := HK.out v6 X6 hr hb
                  go_roundw
                  case rel => exact hrel
                  case measure => exact hme
                · have hee : (p == 92) = false := by simpa using he
                  have HXC := Lib.hid (HXT.out.symm.trans (t_chr (f := f) (acc := acc) HLT.out (by rw [HP.out]; omega) (by rw [HP.out]; omega) (by rw [HP.out]; exact hq) (by rw [HP.out]; exact he)))
                  clear hq he
                  go_upto_region 6 with (fail)
                  rw [HPC.out]
                  go_upto_region 7 with (at_builtin; refine wpList_append_bt rfl _ _ rfl w.heap.size rfl HROW3.out s[b] rfl (by have := HAB.out; have := HBS.out; omega) HG3.out.size ?_; intro v5 X4 hr hb)
                  obtain ⟨hg4, h4⟩ := own_step HRB.out HROW3.out HG3.out hb
                  have hR4 := h4 _ _ _ _ HR3.out
                  have hg5 := gr_set X4 rb 1 (.int .i64 ((b : Int) + 1))
                  have HTG : Hid (TGood s rb i w x v5 (X4.setCell ⟨rb, 1, none⟩ (.int .i64 ((b : Int) + 1)))) := Lib.hid ⟨acc ++ [s[b]], b + 1, f, by rw [List.length_append, List.length_singleton]; have := HAB.out; omega, HLT.out, by have := HF.out; omega, HXC.out.symm, hr.kept hg5 HRB.out, hR4.next (b + 1), hg4.trans hg5⟩
                  have HM2 := Lib.hid (tMeas_ok (n := s.size) (hR4.next (b + 1)))
                  obtain ⟨c0, c1, c2, c3⟩ := hR4.c
                  have z1 := hR4.z 1
                  clear hr hb hg4 h4 hR4 hg5
                  go_wp2_with fail
                  go_roundw
                  case rel => exact .inl HTG
                  case measure =>
                    rw [HM.out]
                    have h9 := HLT.out
                    have h8 := HM2.out
                    refine Nat.lt_of_le_of_lt (Nat.le_of_eq h8) ?_
                    omega
        · have hle : decide ((s.size : Int) ≤ (b : Int)) = true := decide_eq_true (by omega)
          have hp1 : p < 32 := by
            have := HP.out
            rw [pk_ge (by omega)] at this; omega
          have hp1d : decide (p < 32) = true := decide_eq_true hp1
          have hli2 : ¬ (b : Int) < (s.size : Int) := by omega
          have HXB : Hid (x = .bad (dr s b) 10) := Lib.hid (by rw [← HXT.out, t_bad (.inl (by omega))])
          go_upto_region 9 with (fail)
          go_quiet (fail)
          have hR := HR2.out.ext (below_drewN (Below.refl _ _) nq)
          have hg := gr_below (below_drewN (Below.refl X2.heap.size X2) nq) (some rb)
          have HR3 := Lib.hid hR
          have HG3 := Lib.hid (HG2.out.trans hg)
          have HROW3 := Lib.hid (HROW2.out.kept hg HRB.out)
          clear hR hg c0 c1 c2 c3 HR2 HG2 HROW2
          generalize X2.drewN nq = X3 at *
          obtain ⟨c0, c1, c2, c3⟩ := HR3.out.c
          go_wp2_with fail
          refine (fail_ok rb s b b 10 i X3 HR3.out hs HBS.out rfl).mono ?_
          rintro e Wz ⟨rfl, hR, hg⟩
          have HTB : Hid (TBad s rb w x Wz) := Lib.hid ⟨_, _, HXB.out, BadS.at hR HBS.out (HG3.out.trans hg)⟩
          have HM2 := Lib.hid (tMeas_bad (n := s.size) hR (by decide))
          clear hR hg c0 c1 c2 c3
          go_wp2_with fail
          go_roundw
          case rel => exact .inr HTB
          case measure => rw [HM.out, HM2.out]; omega
      · obtain ⟨q, er, hxb, hbad⟩ := HT.out
        have HFI : Hid (TxtPost s rb i w x (.returned (.string ⟨#[]⟩)) wr) := Lib.hid (TxtPost.bad hxb hbad)
        obtain ⟨ab, hab, hne, hRb, _⟩ := hbad
        have heb : (er == 0) = false := by simpa using hne
        obtain ⟨c0, c1, c2, c3⟩ := hRb.c
        clear hxb hab hne hRb HT
        go_wp2_with fail
        go_ret
        exact HFI.out
  · have hc2 : ∀ h : a < s.size, (s[a].toNat : Int) ≠ 34 := fun h e => hc ⟨h, e⟩
    have HXB : Hid (x = .bad (dr s a) 10) := Lib.hid (by rw [← HX.out, textP_no hc2])
    have HC := Lib.hid hc2
    clear hc hc2
    go_wp2_with fail
    refine (sign_no rb s a i 34 w HR.out hs HA.out HC.out).mono ?_
    rintro e w2 ⟨rfl, hR2, hg2⟩
    have HFI : Hid (TxtPost s rb i w x (.returned (.string ⟨#[]⟩)) w2) := Lib.hid (TxtPost.bad HXB.out (BadS.at hR2 HA.out hg2))
    clear hR2 hg2
    go_wp2_with fail
    (try simp only [Exit.inBlock, Exit.then])
    go_ret
    exact HFI.out
end Fd
end Go.Proofs.YtbhcfmdogdaodaaGreatDoor
