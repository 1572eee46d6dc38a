/- escape of the program's reader. Printed by gen_rdg.py. -/
import Derived.Test.YtbhcfmdogdaodaaGreatDoorRz11
namespace Go.Proofs.YtbhcfmdogdaodaaGreatDoor
open Go.RowKit
namespace Fd
open _root_.Go.Proofs.YtbhcfmdogdaodaaGreatDoor.Nm
open _root_.Go.Proofs.YtbhcfmdogdaodaaGreatDoor.Nt (RH RH.cell RH.box RH.lt RH.new RH.ext RH.fre RH.set RH.other)
theorem hexP_ok {k n a d : Nat} {s : ByteArray} (h : a < s.size) (hd : hexd s[a] = some d) : hexP (k + 1) n (dr s a) = hexP k (n * 16 + d) (dr s (a + 1)) := by
  rw [dr_lt h]
  simp only [hexP, hd]
theorem hexP_no {k n a : Nat} {s : ByteArray} (hd : ∀ h : a < s.size, hexd s[a] = none) : hexP (k + 1) n (dr s a) = .bad (dr s a) 10 := by
  by_cases h : a < s.size
  · rw [dr_lt h]
    simp only [hexP, hd h]
  · rw [dr_ge (by omega)]
    simp only [hexP]
/-- the program's bits of a byte: what |32 makes of it -/
def lo32 (c : Int) : Int := bits BinOp.or IntKind.u8 c 32
theorem hexd_dig {c : UInt8} (h1 : 48 ≤ c.toNat) (h2 : c.toNat ≤ 57) : hexd c = some (c.toNat - 48) := by
  unfold hexd; rw [if_pos ⟨h1, h2⟩]
theorem hexd_let {c : UInt8} (h1 : 97 ≤ lo32 (c.toNat : Int)) (h2 : lo32 (c.toNat : Int) ≤ 102) : ∃ d, hexd c = some d ∧ d ≤ 15 ∧ (d : Int) = lo32 (c.toNat : Int) - 87 := by
  have h : ∀ n : Fin 256, 97 ≤ lo32 (n.val : Int) → lo32 (n.val : Int) ≤ 102 → ∃ d : Fin 16, hexd (UInt8.ofNat n.val) = some d.val ∧ (d.val : Int) = lo32 (n.val : Int) - 87 := by decide +kernel
  obtain ⟨d, e1, e2⟩ := h ⟨c.toNat, c.toNat_lt⟩ h1 h2
  have ec : UInt8.ofNat c.toNat = c := by simp
  rw [ec] at e1
  exact ⟨d.val, e1, by have := d.isLt; omega, e2⟩
theorem hexd_dig2 {c : UInt8} {p : Int} (hp : p = (c.toNat : Int)) (h1 : 48 ≤ p) (h2 : p ≤ 57) : hexd c = some (p - 48).toNat := by
  rw [hexd_dig (by omega) (by omega)]
  congr 1; omega
theorem hexd_let2 {c : UInt8} {q : Int} (hq : lo32 (c.toNat : Int) = q) (h1 : 97 ≤ q) (h2 : q ≤ 102) : ∃ d, hexd c = some d ∧ d ≤ 15 ∧ (d : Int) = q - 87 := by
  subst hq
  exact hexd_let h1 h2
theorem hexd_none {c : UInt8} (h0 : ¬ (48 ≤ c.toNat ∧ c.toNat ≤ 57)) (h1 : ¬ (97 ≤ lo32 (c.toNat : Int) ∧ lo32 (c.toNat : Int) ≤ 102)) : hexd c = none := by
  have h : ∀ n : Fin 256, ¬ (48 ≤ n.val ∧ n.val ≤ 57) → ¬ (97 ≤ lo32 (n.val : Int) ∧ lo32 (n.val : Int) ≤ 102) → hexd (UInt8.ofNat n.val) = none := by decide +kernel
  have e1 := h ⟨c.toNat, c.toNat_lt⟩ h0 h1
  have ec : UInt8.ofNat c.toNat = c := by simp
  rwa [ec] at e1
theorem hexd_none2 {c : UInt8} {p q : Int} (hp : p = (c.toNat : Int)) (hq : lo32 (c.toNat : Int) = q) (h0 : ¬ (48 ≤ p ∧ p ≤ 57)) (h1 : ¬ (97 ≤ q ∧ q ≤ 102)) : hexd c = none := by
  subst hq
  exact hexd_none (by omega) h1
/-- the place of a small letter among the digits -/
theorem hex_ix {z : Int} (h1 : 97 ≤ z) (h2 : z ≤ 102) : Lib.indexByte [48, 49, 50, 51, 52, 53, 54, 55, 56, 57, 97, 98, 99, 100, 101, 102] z.toNat.toUInt8 = z - 87 := by
  have h : ∀ n : Fin 6, Lib.indexByte [48, 49, 50, 51, 52, 53, 54, 55, 56, 57, 97, 98, 99, 100, 101, 102] ((97 + n.val : Nat) : Int).toNat.toUInt8 = ((97 + n.val : Nat) : Int) - 87 := by decide +kernel
  have h9 := h ⟨z.toNat - 97, by omega⟩
  have e : ((97 + (z.toNat - 97) : Nat) : Int) = z := by omega
  simp only [e] at h9
  exact h9
theorem hexix_at (z : Int) (w : World) : Calls Tryz.prog 16 #[.string ⟨#[48, 49, 50, 51, 52, 53, 54, 55, 56, 57, 97, 98, 99, 100, 101, 102]⟩, .int .u8 z] w fun e w' => ∃ t : Int, e = .returned (.int .i64 t) ∧ w' = w ∧ (97 ≤ z → z ≤ 102 → t = z - 87) := (ixb_at _ _ _).mono (fun _ _ h => ⟨_, h.1, h.2, fun h1 h2 => hex_ix h1 h2⟩)
/-- what escape answers -/
def EscPost (s : ByteArray) (rb : Nat) (i : Int) (w : World) (x : Res UInt8) (e : Ending) (w' : World) : Prop := ∃ b : UInt8, e = .returned (.int .u8 (b.toNat : Int)) ∧ (∀ v r, x = .ok v r → v = b) ∧ AftS s rb i w w' x
theorem escP_end {s : ByteArray} {a : Nat} (h : s.size ≤ a) : escP (dr s a) = .bad (dr s a) 10 := by rw [dr_ge h]; rfl
theorem escP_one {s : ByteArray} {a : Nat} (h : a < s.size) (hc : pk s a = 34 ∨ pk s a = 92 ∨ pk s a = 47) : escP (dr s a) = .ok s[a] (dr s (a + 1)) := by
  rw [pk_lt h] at hc
  rw [dr_lt h, escP, if_pos]
  rcases hc with h | h | h
  · exact .inl (UInt8.toNat_inj.1 (by show _ = 34; omega))
  · exact .inr (.inl (UInt8.toNat_inj.1 (by show _ = 92; omega)))
  · exact .inr (.inr (UInt8.toNat_inj.1 (by show _ = 47; omega)))
theorem escP_not {s : ByteArray} {a : Nat} (h : a < s.size) (h1 : pk s a ≠ 34) (h2 : pk s a ≠ 92) (h3 : pk s a ≠ 47) : escP (dr s a) = if pk s a = 117 then (match hexP 4 0 (dr s (a + 1)) with
      | .bad q e => .bad q e
      | .ok n q => if n < 32 ∨ 126 < n then .bad (dr s a) 10 else .ok (UInt8.ofNat n) q) else .bad (dr s a) 10 := by
  rw [pk_lt h] at h1 h2 h3 ⊢
  rw [dr_lt h, escP, if_neg]
  · by_cases e : s[a] = 117
    · rw [if_pos e, if_pos (by rw [e]; rfl)]; rfl
    · rw [if_neg e, if_neg (fun h => e (UInt8.toNat_inj.1 (by show _ = 117; omega)))]
  · rintro (e | e | e)
    · exact h1 (by rw [e]; rfl)
    · exact h2 (by rw [e]; rfl)
    · exact h3 (by rw [e]; rfl)
set_option maxRecDepth 100000 in
set_option maxHeartbeats 8000000 in
theorem esc_at (rb : Nat) (s : ByteArray) (a : Nat) (i : Int) (w : World) (h : RD w rb s a 0 i) (hs : s.size ≤ 1000000) (ha : a ≤ s.size) : Calls Tryz.prog 37 #[.pointer (some ⟨rb, 0, none⟩)] w (EscPost s rb i w (escP (dr s a))) := by
  have hs1 : (s.size : Int) ≤ 1000000 := by omega
  have hai : (a : Int) ≤ 1000000 := by omega
  have HR0 := Lib.hid h
  have HG0 := Lib.hid (gr_refl w (some rb))
  obtain ⟨x, hx⟩ : ∃ x, escP (dr s a) = x := ⟨_, rfl⟩
  have HX := Lib.hid hx
  have HA := Lib.hid ha
  rw [hx]
  clear h hx ha
  have hpb := pk_bd s a
  go_enter Tryz.func37, Tryz.ntmps37
  go_wp2_with fail
  refine (peek_q rb s a 0 i w HR0.out hs).mono ?_
  rintro e Wa ⟨rfl, hR, hg, -⟩
  have HR1 := Lib.hid hR
  have HG1 := Lib.hid (HG0.out.trans hg)
  clear hR hg
  by_cases hlt : a < s.size
  · have hli : (a : Int) < (s.size : Int) := by omega
    have hld : decide ((a : Int) < (s.size : Int)) = true := decide_eq_true hli
    have hle : decide ((s.size : Int) ≤ (a : Int)) = false := decide_eq_false (by omega)
    by_cases hc : pk s a = 34 ∨ pk s a = 92 ∨ pk s a = 47
    · have HXO : Hid (x = .ok s[a] (dr s (a + 1))) := Lib.hid (by rw [← HX.out, escP_one hlt hc])
      have HB : Hid (pk s a = (s[a].toNat : Int)) := Lib.hid (pk_lt hlt)
      have HLT := Lib.hid hlt
      rcases hc with hc | hc | hc
      · have e1 : (pk s a == 34) = true := by simpa using hc
        clear hc
        obtain ⟨c0, c1, c2, c3⟩ := HR1.out.c
        go_upto_region 3 with (fail)
        go_quiet (fail)
        have hR := HR1.out.ext (below_drewN (Below.refl _ _) nq)
        have hg := gr_below (below_drewN (Below.refl Wa.heap.size Wa) nq) (some rb)
        have HR2 := Lib.hid hR
        have HG2 := Lib.hid (HG1.out.trans hg)
        clear hR hg c0 c1 c2 c3
        generalize Wa.drewN nq = Wb at *
        obtain ⟨c0, c1, c2, c3⟩ := HR2.out.c
        have z1 := HR2.out.z 1
        have HF : Hid (EscPost s rb i w x (.returned (.int .u8 (pk s a))) (Wb.setCell ⟨rb, 1, none⟩ (.int .i64 ((a : Int) + 1)))) := Lib.hid ⟨s[a], by rw [HB.out]; rfl, (fun v r e => by rw [HXO.out] at e; cases e; rfl), by rw [HXO.out]; exact ⟨a + 1, HLT.out, rfl, HR2.out.next (a + 1), HG2.out.trans (gr_set Wb rb 1 (.int .i64 ((a : Int) + 1)))⟩⟩
        go_wp2_with fail
        (try simp only [Exit.inBlock, Exit.then])
        go_ret
        exact HF.out
      · have e1 : (pk s a == 34) = false := by rw [hc]; rfl
        have e2 : (pk s a == 92) = true := by simpa using hc
        clear hc
        obtain ⟨c0, c1, c2, c3⟩ := HR1.out.c
        go_upto_region 3 with (fail)
        go_quiet (fail)
        have hR := HR1.out.ext (below_drewN (Below.refl _ _) nq)
        have hg := gr_below (below_drewN (Below.refl Wa.heap.size Wa) nq) (some rb)
        have HR2 := Lib.hid hR
        have HG2 := Lib.hid (HG1.out.trans hg)
        clear hR hg c0 c1 c2 c3
        generalize Wa.drewN nq = Wb at *
        obtain ⟨c0, c1, c2, c3⟩ := HR2.out.c
        have z1 := HR2.out.z 1
        have HF : Hid (EscPost s rb i w x (.returned (.int .u8 (pk s a))) (Wb.setCell ⟨rb, 1, none⟩ (.int .i64 ((a : Int) + 1)))) := Lib.hid ⟨s[a], by rw [HB.out]; rfl, (fun v r e => by rw [HXO.out] at e; cases e; rfl), by rw [HXO.out]; exact ⟨a + 1, HLT.out, rfl, HR2.out.next (a + 1), HG2.out.trans (gr_set Wb rb 1 (.int .i64 ((a : Int) + 1)))⟩⟩
        go_wp2_with fail
        (try simp only [Exit.inBlock, Exit.then])
        go_ret
        exact HF.out
      · have e1 : (pk s a == 34) = false := by rw [hc]; rfl
        have e2 : (pk s a == 92) = false := by rw [hc]; rfl
        have e3 : (pk s a == 47) = true := by simpa using hc
        clear hc
        obtain ⟨c0, c1, c2, c3⟩ := HR1.out.c
        go_upto_region 3 with (fail)
        go_quiet (fail)
        have hR := HR1.out.ext (below_drewN (Below.refl _ _) nq)
        have hg := gr_below (below_drewN (Below.refl Wa.heap.size Wa) nq) (some rb)
        have HR2 := Lib.hid hR
        have HG2 := Lib.hid (HG1.out.trans hg)
        clear hR hg c0 c1 c2 c3
        generalize Wa.drewN nq = Wb at *
        obtain ⟨c0, c1, c2, c3⟩ := HR2.out.c
        have z1 := HR2.out.z 1
        have HF : Hid (EscPost s rb i w x (.returned (.int .u8 (pk s a))) (Wb.setCell ⟨rb, 1, none⟩ (.int .i64 ((a : Int) + 1)))) := Lib.hid ⟨s[a], by rw [HB.out]; rfl, (fun v r e => by rw [HXO.out] at e; cases e; rfl), by rw [HXO.out]; exact ⟨a + 1, HLT.out, rfl, HR2.out.next (a + 1), HG2.out.trans (gr_set Wb rb 1 (.int .i64 ((a : Int) + 1)))⟩⟩
        go_wp2_with fail
        (try simp only [Exit.inBlock, Exit.then])
        go_ret
        exact HF.out
    · have hc1 : pk s a ≠ 34 := fun e => hc (.inl e)
      have hc2 : pk s a ≠ 92 := fun e => hc (.inr (.inl e))
      have hc3 : pk s a ≠ 47 := fun e => hc (.inr (.inr e))
      have HN := Lib.hid (escP_not hlt hc1 hc2 hc3)
      have e1 : (pk s a == 34) = false := by simpa using hc1
      have e2 : (pk s a == 92) = false := by simpa using hc2
      have e3 : (pk s a == 47) = false := by simpa using hc3
      have HLT := Lib.hid hlt
      clear hc hc1 hc2 hc3
      obtain ⟨c0, c1, c2, c3⟩ := HR1.out.c
      go_upto_region 3 with (fail)
      go_quiet (fail)
      have hR := HR1.out.ext (below_drewN (Below.refl _ _) nq)
      have hg := gr_below (below_drewN (Below.refl Wa.heap.size Wa) nq) (some rb)
      have HR2 := Lib.hid hR
      have HG2 := Lib.hid (HG1.out.trans hg)
      clear hR hg c0 c1 c2 c3
      generalize Wa.drewN nq = Wb at *
      by_cases hu : pk s a = 117
      · have HXH := Lib.hid (HX.out.symm.trans (HN.out.trans (if_pos hu)))
        have e4 : (pk s a == 117) = true := by simpa using hu
        have e5 : (pk s a != 117) = false := by simpa using hu
        clear hu
        obtain ⟨c0, c1, c2, c3⟩ := HR2.out.c
        go_upto_region 6 with (fail)
        go_quiet (fail)
        have hR := HR2.out.ext (below_drewN (Below.refl _ _) nq)
        have hg := gr_below (below_drewN (Below.refl Wb.heap.size Wb) nq) (some rb)
        have HR3 := Lib.hid hR
        have HG3 := Lib.hid (HG2.out.trans hg)
        clear hR hg c0 c1 c2 c3
        generalize Wb.drewN nq = Wc at *
        obtain ⟨c0, c1, c2, c3⟩ := HR3.out.c
        have z1 := HR3.out.z 1
        obtain ⟨y, hy⟩ : ∃ y, hexP 4 0 (dr s (a + 1)) = y := ⟨_, rfl⟩
        rw [hy] at HXH
        have HY0 : Hid (hexP (4 - 0) 0 (dr s (a + 0 + 1)) = y) := Lib.hid hy
        have HPOW : Hid ((0 : Nat) < 16 ^ 0) := Lib.hid (by decide)
        have HR3 : Hid (RD Wc rb s (a + 0) 0 i) := HR3
        clear hy
        have hleN : decide (s.size ≤ a) = false := decide_eq_false (by have := HLT.out; omega)
        go_wp2_with fail
        simp only [hleN]
        clear hleN
        clear c0 c1 c2 c3 z1 e1 e2 e3 e4 e5 hld hle hpb
        go_loopw [5, 66] (fun p1 p2 wr => ∃ n k : Nat, k ≤ 4 ∧ Hid (n < 16 ^ k) ∧ a + k < s.size ∧ p1 = .int .i64 (n : Int) ∧ p2 = .int .i64 (k : Int) ∧ Hid (hexP (4 - k) n (dr s (a + k + 1)) = y) ∧ Hid (RD wr rb s (a + k) 0 i) ∧ Hid (w.grownBy wr (some rb))) (fun _ p2 _ => 4 - (intOf p2).toNat)
        case atStart => exact ⟨0, 0, by decide, HPOW, HLT.out, rfl, rfl, HY0, HR3, HG3⟩
        case round =>
          clear HY0 HPOW HR3 HG3
          obtain ⟨n, k, hk, HPW, hak, rfl, rfl, HY, HR, HG⟩ := hrel
          generalize hXX : wr = X at *
          clear hXX
          obtain ⟨b, hb⟩ : ∃ b, a + k = b := ⟨_, rfl⟩
          rw [hb] at hak HY HR
          have HAB := Lib.hid hb
          have HBS := Lib.hid hak
          have hbi : (b : Int) ≤ 1000000 := by omega
          clear hb hak
          by_cases hk4 : k = 4
          · obtain ⟨c0, c1, c2, c3⟩ := HR.out.c
            have z1 := HR.out.z 1
            have hnb : (n : Int) ≤ 65535 := by
              have h1 := HPW.out
              rw [hk4] at h1
              have h3 : n < 65536 := h1
              omega
            have hn0 : (0 : Int) ≤ (n : Int) := Int.natCast_nonneg _
            have HY2 : Hid (y = .ok n (dr s (b + 1))) := Lib.hid (by rw [← HY.out, hk4]; rfl)
            subst hk4
            have HR2 : Hid (RD (X.setCell ⟨rb, 1, none⟩ (.int .i64 ((b : Int) + 1))) rb s (b + 1) 0 i) := Lib.hid (HR.out.next (b + 1))
            have HG2 := Lib.hid (HG.out.trans (gr_set X rb 1 (.int .i64 ((b : Int) + 1))))
            by_cases hn1 : (n : Int) < 32
            · have HXB : Hid (x = .bad (dr s a) 10) := Lib.hid (by
                rw [HXH.out, HY2.out]
                exact if_pos (by omega))
              go_upto_region 25 with (fail)
              generalize X.setCell ⟨rb, 1, none⟩ (.int .i64 ((b : Int) + 1)) = X2 at *
              clear c0 c1 c2 c3 z1
              go_wp2_with fail
              refine (fail_ok rb s (b + 1) a 10 i X2 HR2.out hs HA.out rfl).mono ?_
              rintro e Wz ⟨rfl, hR, hg⟩
              obtain ⟨u, hu⟩ : ∃ u : UInt8, IntKind.u8.wrap (n : Int) = (u.toNat : Int) := ⟨UInt8.ofNat n, by rw [UInt8.toNat_ofNat']; rfl⟩
              have HF : Hid (EscPost s rb i w x (.returned (.int .u8 (u.toNat : Int))) Wz) := Lib.hid ⟨u, rfl, (fun v r e => by rw [HXB.out] at e; cases e), by rw [HXB.out]; exact ⟨b + 1, HBS.out, by decide, by rw [sub_len HA.out]; exact hR, HG2.out.trans hg⟩⟩
              clear hR hg
              go_wp2_with fail
              go_ret
              exact HF.out
            · by_cases hn2 : 126 < (n : Int)
              · have HXB : Hid (x = .bad (dr s a) 10) := Lib.hid (by
                  rw [HXH.out, HY2.out]
                  exact if_pos (by omega))
                go_upto_region 25 with (fail)
                generalize X.setCell ⟨rb, 1, none⟩ (.int .i64 ((b : Int) + 1)) = X2 at *
                clear c0 c1 c2 c3 z1
                go_wp2_with fail
                refine (fail_ok rb s (b + 1) a 10 i X2 HR2.out hs HA.out rfl).mono ?_
                rintro e Wz ⟨rfl, hR, hg⟩
                obtain ⟨u, hu⟩ : ∃ u : UInt8, IntKind.u8.wrap (n : Int) = (u.toNat : Int) := ⟨UInt8.ofNat n, by rw [UInt8.toNat_ofNat']; rfl⟩
                have HF : Hid (EscPost s rb i w x (.returned (.int .u8 (u.toNat : Int))) Wz) := Lib.hid ⟨u, rfl, (fun v r e => by rw [HXB.out] at e; cases e), by rw [HXB.out]; exact ⟨b + 1, HBS.out, by decide, by rw [sub_len HA.out]; exact hR, HG2.out.trans hg⟩⟩
                clear hR hg
                go_wp2_with fail
                go_ret
                exact HF.out
              · have HX2 : Hid (x = .ok (UInt8.ofNat n) (dr s (b + 1))) := Lib.hid (by
                  rw [HXH.out, HY2.out]
                  exact if_neg (by omega))
                have HU : Hid (((UInt8.ofNat n).toNat : Int) = (n : Int)) := Lib.hid (by rw [UInt8.toNat_ofNat']; omega)
                have HF : Hid (EscPost s rb i w x (.returned (.int .u8 (n : Int))) (X.setCell ⟨rb, 1, none⟩ (.int .i64 ((b : Int) + 1)))) := Lib.hid ⟨UInt8.ofNat n, by rw [HU.out], (fun v r e => by rw [HX2.out] at e; cases e; rfl), by rw [HX2.out]; exact ⟨b + 1, HBS.out, rfl, HR2.out, HG2.out⟩⟩
                go_wp2_with fail
                go_ret
                exact HF.out
          · have hki : (k : Int) < 4 := by omega
            clear hk hk4
            obtain ⟨c0, c1, c2, c3⟩ := HR.out.c
            have z1 := HR.out.z 1
            have hR : RD (X.setCell ⟨rb, 1, none⟩ (.int .i64 ((b : Int) + 1))) rb s (b + 1) 0 i := HR.out.next (b + 1)
            have hg := gr_set X rb 1 (.int .i64 ((b : Int) + 1))
            have HR2 := Lib.hid hR
            have HG2 := Lib.hid (HG.out.trans hg)
            clear hR hg
            go_wp2_with fail
            clear c0 c1 c2 c3 z1
            generalize X.setCell ⟨rb, 1, none⟩ (.int .i64 ((b : Int) + 1)) = X2 at *
            obtain ⟨d, hd⟩ : ∃ d, b + 1 = d := ⟨_, rfl⟩
            have HD := Lib.hid hd
            rw [hd] at HR2 HY
            clear hd
            refine (peek_q rb s d 0 i X2 HR2.out hs).mono ?_
            rintro e X3 ⟨rfl, hR, hg, -⟩
            have HR3 := Lib.hid hR
            have HG3 := Lib.hid (HG2.out.trans hg)
            clear hR hg HR2 HG2
            have hpd := pk_bd s d
            go_wp2_with fail
            refine (hexix_at _ X3).mono ?_
            rintro e X4 ⟨t, rfl, hw, ht⟩
            have hw := hw.symm
            subst hw
            have HT := Lib.hid ht
            clear ht
            obtain ⟨q, hq⟩ : ∃ q, bits BinOp.or IntKind.u8 (pk s d) 32 = q := ⟨_, rfl⟩
            have HQ := Lib.hid hq
            rw [hq] at HT
            go_wp2_with fail
            refine (peek_q rb s d 0 i X3 HR3.out hs).mono ?_
            rintro e X4 ⟨rfl, hR, hg, -⟩
            have HR4 := Lib.hid hR
            have HG4 := Lib.hid (HG3.out.trans hg)
            clear hR hg HR3 HG3
            have HK : Hid (4 - k = (3 - k) + 1) := Lib.hid (by omega)
            rw [HK.out] at HY
            obtain ⟨p, hp⟩ : ∃ p, pk s d = p := ⟨_, rfl⟩
            have HP := Lib.hid hp
            rw [hp] at hpd HQ ⊢
            clear hp hq
            have hnb : (n : Int) ≤ 65535 := by
              have h1 := HPW.out
              have h2 : (16 : Nat) ^ k ≤ 16 ^ 4 := Nat.pow_le_pow_right (by decide) (by omega)
              have h3 : n < 65536 := Nat.lt_of_lt_of_le h1 h2
              omega
            have hn0 : (0 : Int) ≤ (n : Int) := Int.natCast_nonneg _
            have hqq : bits BinOp.or IntKind.u8 p 32 = q := HQ.out
            obtain ⟨c0, c1, c2, c3⟩ := HR4.out.c
            by_cases hdl : d < s.size
            · have hle : decide ((s.size : Int) ≤ (d : Int)) = false := decide_eq_false (by omega)
              have HDL := Lib.hid hdl
              have HPC : Hid (p = (s[d].toNat : Int)) := Lib.hid (HP.out.symm.trans (pk_lt hdl))
              have HLQ : Hid (lo32 (s[d].toNat : Int) = q) := Lib.hid ((congrArg lo32 (pk_lt hdl)).symm.trans (by rw [HP.out]; exact HQ.out))
              by_cases hp1 : 48 ≤ p
              · by_cases hp2 : p ≤ 57
                · have HDD : Hid (hexd s[d] = some (p - 48).toNat) := Lib.hid (hexd_dig2 HPC.out hp1 hp2)
                  obtain ⟨v, hv⟩ : ∃ v : Nat, (p - 48).toNat = v := ⟨_, rfl⟩
                  have hvi : p - 48 = (v : Int) := by omega
                  have hv9 : (v : Int) ≤ 15 := by omega
                  have hv0 : (0 : Int) ≤ (v : Int) := Int.natCast_nonneg _
                  rw [hv] at HDD
                  clear hv
                  have HY2 : Hid (hexP (4 - (k + 1)) (n * 16 + v) (dr s (a + (k + 1) + 1)) = y) := Lib.hid (by
                    rw [← HY.out, hexP_ok HDL.out HDD.out]
                    rw [show 4 - (k + 1) = 3 - k from by omega, show a + (k + 1) + 1 = d + 1 from by have := HAB.out; have := HD.out; omega])
                  have HPW2 : Hid (n * 16 + v < 16 ^ (k + 1)) := Lib.hid (by have := HPW.out; rw [Nat.pow_succ]; omega)
                  have HAD : Hid (d = a + (k + 1)) := Lib.hid (by have := HAB.out; have := HD.out; omega)
                  go_upto_region 19 with (fail)
                  go_quiet (fail)
                  have hR := HR4.out.ext (below_drewN (Below.refl _ _) nq)
                  have hg := gr_below (below_drewN (Below.refl X4.heap.size X4) nq) (some rb)
                  have HR5 := Lib.hid hR
                  have HG5 := Lib.hid (HG4.out.trans hg)
                  clear hR hg c0 c1 c2 c3
                  generalize X4.drewN nq = X5 at *
                  go_wp2_with fail
                  go_roundw
                  case rel => exact ⟨n * 16 + v, k + 1, by omega, HPW2, by have := HAD.out; have := HDL.out; omega, by go_num, by go_num, HY2, Lib.hid (HAD.out ▸ HR5.out), HG5⟩
                  case measure => simp [intOf]; omega
                · have HPN : Hid (¬ (48 ≤ p ∧ p ≤ 57)) := Lib.hid (by omega)
                  by_cases hq1 : 97 ≤ q
                  · by_cases hq2 : q ≤ 102
                    · obtain ⟨v, hv1, hv2, hv3⟩ := hexd_let2 HLQ.out hq1 hq2
                      have HDD : Hid (hexd s[d] = some v) := Lib.hid hv1
                      have htv : t = (v : Int) := by
                        have h1 := HT.out hq1 hq2
                        omega
                      subst htv
                      have hv9 : (v : Int) ≤ 15 := by omega
                      have hv0 : (0 : Int) ≤ (v : Int) := Int.natCast_nonneg _
                      clear hv1 hv2 hv3
                      have HY2 : Hid (hexP (4 - (k + 1)) (n * 16 + v) (dr s (a + (k + 1) + 1)) = y) := Lib.hid (by
                        rw [← HY.out, hexP_ok HDL.out HDD.out]
                        rw [show 4 - (k + 1) = 3 - k from by omega, show a + (k + 1) + 1 = d + 1 from by have := HAB.out; have := HD.out; omega])
                      have HPW2 : Hid (n * 16 + v < 16 ^ (k + 1)) := Lib.hid (by have := HPW.out; rw [Nat.pow_succ]; omega)
                      have HAD : Hid (d = a + (k + 1)) := Lib.hid (by have := HAB.out; have := HD.out; omega)
                      go_upto_region 19 with (fail)
                      go_quiet (fail)
                      have hR := HR4.out.ext (below_drewN (Below.refl _ _) nq)
                      have hg := gr_below (below_drewN (Below.refl X4.heap.size X4) nq) (some rb)
                      have HR5 := Lib.hid hR
                      have HG5 := Lib.hid (HG4.out.trans hg)
                      clear hR hg c0 c1 c2 c3
                      generalize X4.drewN nq = X5 at *
                      go_wp2_with fail
                      go_roundw
                      case rel => exact ⟨n * 16 + v, k + 1, by omega, HPW2, by have := HAD.out; have := HDL.out; omega, by go_num, by go_num, HY2, Lib.hid (HAD.out ▸ HR5.out), HG5⟩
                      case measure => simp [intOf]; omega
                    · have HHN : Hid (∀ h : d < s.size, hexd s[d] = none) := Lib.hid (fun _ => hexd_none2 HPC.out HLQ.out HPN.out (by omega))
                      have HXB : Hid (x = .bad (dr s d) 10) := Lib.hid (by rw [HXH.out, ← HY.out, hexP_no HHN.out])
                      have HDS : Hid (d ≤ s.size) := Lib.hid (by have := HD.out; have := HBS.out; omega)
                      go_upto_region 19 with (fail)
                      go_quiet (fail)
                      have hR := HR4.out.ext (below_drewN (Below.refl _ _) nq)
                      have hg := gr_below (below_drewN (Below.refl X4.heap.size X4) nq) (some rb)
                      have HR5 := Lib.hid hR
                      have HG5 := Lib.hid (HG4.out.trans hg)
                      clear hR hg c0 c1 c2 c3
                      generalize X4.drewN nq = X5 at *
                      obtain ⟨c0, c1, c2, c3⟩ := HR5.out.c
                      go_wp2_with fail
                      refine (fail_ok rb s d d 10 i X5 HR5.out hs HDS.out rfl).mono ?_
                      rintro e Wz ⟨rfl, hR, hg⟩
                      have HF : Hid (EscPost s rb i w x (.returned (.int .u8 0)) Wz) := Lib.hid ⟨0, rfl, (fun v r e => by rw [HXB.out] at e; cases e), by rw [HXB.out]; exact BadS.at hR HDS.out (HG5.out.trans hg)⟩
                      clear hR hg c0 c1 c2 c3
                      go_wp2_with fail
                      (try simp only [Exit.inBlock, Exit.then])
                      go_ret
                      exact HF.out
                  · have HHN : Hid (∀ h : d < s.size, hexd s[d] = none) := Lib.hid (fun _ => hexd_none2 HPC.out HLQ.out HPN.out (by omega))
                    have HXB : Hid (x = .bad (dr s d) 10) := Lib.hid (by rw [HXH.out, ← HY.out, hexP_no HHN.out])
                    have HDS : Hid (d ≤ s.size) := Lib.hid (by have := HD.out; have := HBS.out; omega)
                    go_upto_region 19 with (fail)
                    go_quiet (fail)
                    have hR := HR4.out.ext (below_drewN (Below.refl _ _) nq)
                    have hg := gr_below (below_drewN (Below.refl X4.heap.size X4) nq) (some rb)
                    have HR5 := Lib.hid hR
                    have HG5 := Lib.hid (HG4.out.trans hg)
                    clear hR hg c0 c1 c2 c3
                    generalize X4.drewN nq = X5 at *
                    obtain ⟨c0, c1, c2, c3⟩ := HR5.out.c
                    go_wp2_with fail
                    refine (fail_ok rb s d d 10 i X5 HR5.out hs HDS.out rfl).mono ?_
                    rintro e Wz ⟨rfl, hR, hg⟩
                    have HF : Hid (EscPost s rb i w x (.returned (.int .u8 0)) Wz) := Lib.hid ⟨0, rfl, (fun v r e => by rw [HXB.out] at e; cases e), by rw [HXB.out]; exact BadS.at hR HDS.out (HG5.out.trans hg)⟩
                    clear hR hg c0 c1 c2 c3
                    go_wp2_with fail
                    (try simp only [Exit.inBlock, Exit.then])
                    go_ret
                    exact HF.out
              · have HPN : Hid (¬ (48 ≤ p ∧ p ≤ 57)) := Lib.hid (by omega)
                by_cases hq1 : 97 ≤ q
                · by_cases hq2 : q ≤ 102
                  · obtain ⟨v, hv1, hv2, hv3⟩ := hexd_let2 HLQ.out hq1 hq2
                    have HDD : Hid (hexd s[d] = some v) := Lib.hid hv1
                    have htv : t = (v : Int) := by
                      have h1 := HT.out hq1 hq2
                      omega
                    subst htv
                    have hv9 : (v : Int) ≤ 15 := by omega
                    have hv0 : (0 : Int) ≤ (v : Int) := Int.natCast_nonneg _
                    clear hv1 hv2 hv3
                    have HY2 : Hid (hexP (4 - (k + 1)) (n * 16 + v) (dr s (a + (k + 1) + 1)) = y) := Lib.hid (by
                      rw [← HY.out, hexP_ok HDL.out HDD.out]
                      rw [show 4 - (k + 1) = 3 - k from by omega, show a + (k + 1) + 1 = d + 1 from by have := HAB.out; have := HD.out; omega])
                    have HPW2 : Hid (n * 16 + v < 16 ^ (k + 1)) := Lib.hid (by have := HPW.out; rw [Nat.pow_succ]; omega)
                    have HAD : Hid (d = a + (k + 1)) := Lib.hid (by have := HAB.out; have := HD.out; omega)
                    go_upto_region 19 with (fail)
                    go_quiet (fail)
                    have hR := HR4.out.ext (below_drewN (Below.refl _ _) nq)
                    have hg := gr_below (below_drewN (Below.refl X4.heap.size X4) nq) (some rb)
                    have HR5 := Lib.hid hR
                    have HG5 := Lib.hid (HG4.out.trans hg)
                    clear hR hg c0 c1 c2 c3
                    generalize X4.drewN nq = X5 at *
                    go_wp2_with fail
                    go_roundw
                    case rel => exact ⟨n * 16 + v, k + 1, by omega, HPW2, by have := HAD.out; have := HDL.out; omega, by go_num, by go_num, HY2, Lib.hid (HAD.out ▸ HR5.out), HG5⟩
                    case measure => simp [intOf]; omega
                  · have HHN : Hid (∀ h : d < s.size, hexd s[d] = none) := Lib.hid (fun _ => hexd_none2 HPC.out HLQ.out HPN.out (by omega))
                    have HXB : Hid (x = .bad (dr s d) 10) := Lib.hid (by rw [HXH.out, ← HY.out, hexP_no HHN.out])
                    have HDS : Hid (d ≤ s.size) := Lib.hid (by have := HD.out; have := HBS.out; omega)
                    go_upto_region 19 with (fail)
                    go_quiet (fail)
                    have hR := HR4.out.ext (below_drewN (Below.refl _ _) nq)
                    have hg := gr_below (below_drewN (Below.refl X4.heap.size X4) nq) (some rb)
                    have HR5 := Lib.hid hR
                    have HG5 := Lib.hid (HG4.out.trans hg)
                    clear hR hg c0 c1 c2 c3
                    generalize X4.drewN nq = X5 at *
                    obtain ⟨c0, c1, c2, c3⟩ := HR5.out.c
                    go_wp2_with fail
                    refine (fail_ok rb s d d 10 i X5 HR5.out hs HDS.out rfl).mono ?_
                    rintro e Wz ⟨rfl, hR, hg⟩
                    have HF : Hid (EscPost s rb i w x (.returned (.int .u8 0)) Wz) := Lib.hid ⟨0, rfl, (fun v r e => by rw [HXB.out] at e; cases e), by rw [HXB.out]; exact BadS.at hR HDS.out (HG5.out.trans hg)⟩
                    clear hR hg c0 c1 c2 c3
                    go_wp2_with fail
                    (try simp only [Exit.inBlock, Exit.then])
                    go_ret
                    exact HF.out
                · have HHN : Hid (∀ h : d < s.size, hexd s[d] = none) := Lib.hid (fun _ => hexd_none2 HPC.out HLQ.out HPN.out (by omega))
                  have HXB : Hid (x = .bad (dr s d) 10) := Lib.hid (by rw [HXH.out, ← HY.out, hexP_no HHN.out])
                  have HDS : Hid (d ≤ s.size) := Lib.hid (by have := HD.out; have := HBS.out; omega)
                  go_upto_region 19 with (fail)
                  go_quiet (fail)
                  have hR := HR4.out.ext (below_drewN (Below.refl _ _) nq)
                  have hg := gr_below (below_drewN (Below.refl X4.heap.size X4) nq) (some rb)
                  have HR5 := Lib.hid hR
                  have HG5 := Lib.hid (HG4.out.trans hg)
                  clear hR hg c0 c1 c2 c3
                  generalize X4.drewN nq = X5 at *
                  obtain ⟨c0, c1, c2, c3⟩ := HR5.out.c
                  go_wp2_with fail
                  refine (fail_ok rb s d d 10 i X5 HR5.out hs HDS.out rfl).mono ?_
                  rintro e Wz ⟨rfl, hR, hg⟩
                  have HF : Hid (EscPost s rb i w x (.returned (.int .u8 0)) Wz) := Lib.hid ⟨0, rfl, (fun v r e => by rw [HXB.out] at e; cases e), by rw [HXB.out]; exact BadS.at hR HDS.out (HG5.out.trans hg)⟩
                  clear hR hg c0 c1 c2 c3
                  go_wp2_with fail
                  (try simp only [Exit.inBlock, Exit.then])
                  go_ret
                  exact HF.out
            · have hle : decide ((s.size : Int) ≤ (d : Int)) = true := decide_eq_true (by omega)
              have hp1 : ¬ 48 ≤ p := by
                have := HP.out
                rw [pk_ge (by omega)] at this; omega
              have hq1 : q < 97 := by
                have h1 := HP.out
                have h2 := HQ.out
                rw [pk_ge (by omega)] at h1
                rw [← h2, ← h1]; decide
              have HHN : Hid (∀ h : d < s.size, hexd s[d] = none) := Lib.hid (fun h => absurd h hdl)
              have hli2 : ¬ (d : Int) < (s.size : Int) := by omega
              have hqn : ¬ 97 ≤ q := by omega
              have HXB : Hid (x = .bad (dr s d) 10) := Lib.hid (by rw [HXH.out, ← HY.out, hexP_no HHN.out])
              have HDS : Hid (d ≤ s.size) := Lib.hid (by have := HD.out; have := HBS.out; omega)
              go_upto_region 19 with (fail)
              go_quiet (fail)
              have hR := HR4.out.ext (below_drewN (Below.refl _ _) nq)
              have hg := gr_below (below_drewN (Below.refl X4.heap.size X4) nq) (some rb)
              have HR5 := Lib.hid hR
              have HG5 := Lib.hid (HG4.out.trans hg)
              clear hR hg c0 c1 c2 c3
              generalize X4.drewN nq = X5 at *
              obtain ⟨c0, c1, c2, c3⟩ := HR5.out.c
              go_wp2_with fail
              refine (fail_ok rb s d d 10 i X5 HR5.out hs HDS.out rfl).mono ?_
              rintro e Wz ⟨rfl, hR, hg⟩
              have HF : Hid (EscPost s rb i w x (.returned (.int .u8 0)) Wz) := Lib.hid ⟨0, rfl, (fun v r e => by rw [HXB.out] at e; cases e), by rw [HXB.out]; exact BadS.at hR HDS.out (HG5.out.trans hg)⟩
              clear hR hg c0 c1 c2 c3
              go_wp2_with fail
              (try simp only [Exit.inBlock, Exit.then])
              go_ret
              exact HF.out
      · have HXB : Hid (x = .bad (dr s a) 10) := Lib.hid (by rw [← HX.out, HN.out, if_neg hu])
        have e4 : (pk s a == 117) = false := by simpa using hu
        have e5 : (pk s a != 117) = true := by simpa using hu
        clear hu
        obtain ⟨c0, c1, c2, c3⟩ := HR2.out.c
        go_upto_region 6 with (fail)
        go_quiet (fail)
        have hR := HR2.out.ext (below_drewN (Below.refl _ _) nq)
        have hg := gr_below (below_drewN (Below.refl Wb.heap.size Wb) nq) (some rb)
        have HR3 := Lib.hid hR
        have HG3 := Lib.hid (HG2.out.trans hg)
        clear hR hg c0 c1 c2 c3
        generalize Wb.drewN nq = Wc at *
        obtain ⟨c0, c1, c2, c3⟩ := HR3.out.c
        go_wp2_with fail
        refine (fail_ok rb s a a 10 i Wc HR3.out hs HA.out rfl).mono ?_
        rintro e Wz ⟨rfl, hR, hg⟩
        have HF : Hid (EscPost s rb i w x (.returned (.int .u8 0)) Wz) := Lib.hid ⟨0, rfl, (fun v r e => by rw [HXB.out] at e; cases e), by rw [HXB.out]; exact BadS.at hR HA.out (HG3.out.trans hg)⟩
        clear hR hg c0 c1 c2 c3
        go_wp2_with fail
        (try simp only [Exit.inBlock, Exit.then])
        go_ret
        exact HF.out
  · have hli : ¬ (a : Int) < (s.size : Int) := by omega
    have hld : decide ((a : Int) < (s.size : Int)) = false := decide_eq_false hli
    have hle : decide ((s.size : Int) ≤ (a : Int)) = true := decide_eq_true (by omega)
    have HXB : Hid (x = .bad (dr s a) 10) := Lib.hid (by rw [← HX.out, escP_end (by omega)])
    obtain ⟨c0, c1, c2, c3⟩ := HR1.out.c
    go_upto_region 3 with (fail)
    go_quiet (fail)
    have hR := HR1.out.ext (below_drewN (Below.refl _ _) nq)
    have hg := gr_below (below_drewN (Below.refl Wa.heap.size Wa) nq) (some rb)
    have HR2 := Lib.hid hR
    have HG2 := Lib.hid (HG1.out.trans hg)
    clear hR hg c0 c1 c2 c3
    generalize Wa.drewN nq = Wb at *
    obtain ⟨c0, c1, c2, c3⟩ := HR2.out.c
    go_upto_region 6 with (fail)
    go_quiet (fail)
    have hR := HR2.out.ext (below_drewN (Below.refl _ _) nq)
    have hg := gr_below (below_drewN (Below.refl Wb.heap.size Wb) nq) (some rb)
    have HR3 := Lib.hid hR
    have HG3 := Lib.hid (HG2.out.trans hg)
    clear hR hg c0 c1 c2 c3
    generalize Wb.drewN nq = Wc at *
    obtain ⟨c0, c1, c2, c3⟩ := HR3.out.c
    go_wp2_with fail
    refine (fail_ok rb s a a 10 i Wc HR3.out hs HA.out rfl).mono ?_
    rintro e Wz ⟨rfl, hR, hg⟩
    have HF : Hid (EscPost s rb i w x (.returned (.int .u8 0)) Wz) := Lib.hid ⟨0, rfl, (fun v r e => by rw [HXB.out] at e; cases e), by rw [HXB.out]; exact BadS.at hR HA.out (HG3.out.trans hg)⟩
    clear hR hg c0 c1 c2 c3
    go_wp2_with fail
    (try simp only [Exit.inBlock, Exit.then])
    go_ret
    exact HF.out
end Fd
end Go.Proofs.YtbhcfmdogdaodaaGreatDoor
