/- thousandths of package value. Printed by gen_vsh.py. show of package value: a value's text written to a builder. Printed by gen_vsh.py. -/
import Derived.Test.YtbhcfmdogdaodaaDoorTe23
import Derived.Test.YtbhcfmdogdaodaaDoorShelf
import Derived.Test.YtbhcfmdogdaodaaDoorTe11
import Derived.Test.YtbhcfmdogdaodaaDoorTe04
namespace Go.Proofs.YtbhcfmdogdaodaaDoor
open Go.RowKit
namespace Fd
open _root_.Go.Proofs.YtbhcfmdogdaodaaDoor.Nt (RH RH.cell RH.box RH.lt RH.new RH.ext RH.fre RH.set RH.other)
open _root_.Go.Proofs.YtbhcfmdogdaodaaDoor.Rw (All2 All2.get All2.length wpList_load_agg wp_stored)
open _root_.Go.Proofs.YtbhcfmdogdaodaaDoor.Nm
theorem isb_ext {T e : TypeId} {B b : Nat} {bs : List Value} {w w' : World} (h : Lib.IsBuilder T e B b bs w) (hb : Below w.heap.size w w') : Lib.IsBuilder T e B b bs w' := by
  have go : ∀ p, Lib.BuilderAt T e B b p bs w → Lib.BuilderAt T e B b p bs w' := fun p h => by
    have hlt := h.lt
    obtain ⟨h1, v, h2, h3, h4⟩ := h
    exact ⟨h1, v, by rw [hb.block b hlt]; exact h2, ownsRow_ext h3 hb, h4⟩
  rcases h with h | h
  · exact .inl (go _ h)
  · exact .inr (go _ h)
theorem IsB.ext {B b : Nat} {l : List UInt8} {w w' : World} (h : IsB B b l w) (hb : Below w.heap.size w w') : IsB B b l w' := isb_ext h hb
theorem bs_app_size (a b : ByteArray) : (a ++ b).size = a.size + b.size := ByteArray.size_append
theorem bs_app_list (a b : ByteArray) : (a ++ b).data.toList = a.data.toList ++ b.data.toList := by rw [ByteArray.data_append, Array.toList_append]
theorem trim_len (l : List UInt8) (c : UInt8) : (Lib.trimRightB l c).length ≤ l.length := by
  unfold Lib.trimRightB
  rw [List.length_reverse]
  exact Nat.le_trans (List.dropWhile_sublist _).length_le (by rw [List.length_reverse]; exact Nat.le_refl _)
theorem four_digs {r : Nat} (h : r < 1000) : (decS (1000 + r)).length = 4 := by
  have e1 : (1000 + r) / 10 = 100 + r / 10 := by omega
  have e2 : (100 + r / 10) / 10 = 10 + r / 100 := by omega
  have e3 : (10 + r / 100) / 10 = 1 := by omega
  rw [decS_big (by omega), e1, decS_big (by omega), e2, decS_big (by omega), e3, decS_small (by omega)]
  rfl
set_option maxRecDepth 100000 in
set_option maxHeartbeats 16000000 in
theorem thousandths_at (B b : Nat) (l : List UInt8) (n : Int) (w : World) (_hT : Tx.Tb w) (h : IsB B b l w) (hlen : l.length ≤ 140737488300000) (hBw : B ≤ w.heap.size) (hTB : ∀ W, Below B w W → Tx.Tb W) (h1 : -1000000000000000 < n) (h2 : n < 1000000000000000) :
    Calls Tryd.prog 69 #[.pointer (some ⟨b, 0, none⟩), .int .i64 n] w (WrPost B b l (numT n) w) := by
  have HI := Lib.hid h
  have HTB := Lib.hid hTB
  have HLN := Lib.hid hlen
  have HBW := Lib.hid hBw
  clear h hTB hlen hBw
  go_enter Tryd.func69, Tryd.ntmps69
  by_cases hn : n < 0
  · obtain ⟨m, rfl⟩ : ∃ m : Nat, n = -(m : Int) := ⟨n.natAbs, by omega⟩
    have hm : (0 : Int) < (m : Int) := by omega
    have HNT : Hid (l ++ numT (-(m : Int)) = (l ++ [45]) ++ (decS (m / 1000) ++ fracT (m % 1000))) := Lib.hid (by
      unfold numT; rw [if_pos hn, Int.natAbs_neg, Int.natAbs_natCast]; simp)
    have hm2 : (m : Int) < 1000000000000000 := by omega
    clear hn h1 h2
    have HIT : Hid (∀ W, Below B w W → Calls Tryd.prog 90 #[.int .i64 ((m : Int) / 1000)] W fun e w' => e = .returned (.string (Tx.stB (decS (m / 1000)))) ∧ Below W.heap.size W w') := Lib.hid (fun W hW => by
      have h9 := Tx.itoa_at (m / 1000) (by omega) W (HTB.out W hW)
      rw [show ((m / 1000 : Nat) : Int) = (m : Int) / 1000 by omega] at h9
      exact h9)
    obtain ⟨r, hr⟩ : ∃ r : Nat, m % 1000 = r := ⟨_, rfl⟩
    have HR := Lib.hid hr
    have HRI : Hid ((m : Int) % 1000 = (r : Int)) := Lib.hid (by omega)
    have HRL : Hid (r < 1000) := Lib.hid (by omega)
    have HIT2 : Hid (∀ W, Below B w W → Calls Tryd.prog 90 #[.int .i64 (1000 + (m : Int) % 1000)] W fun e w' => e = .returned (.string (Tx.stB (decS (1000 + r)))) ∧ Below W.heap.size W w') := Lib.hid (fun W hW => by
      have h9 := Tx.itoa_at (1000 + r) (by omega) W (HTB.out W hW)
      rw [show ((1000 + r : Nat) : Int) = 1000 + (m : Int) % 1000 by omega] at h9
      exact h9)
    have HDL : Hid ((decS (m / 1000)).length ≤ 20) := Lib.hid (Nat.le_trans (decS_length (k := 15) (by omega) (by omega)) (by omega))
    clear hr
    have hm9 : (m : Int) ≤ 9223372036854775807 := by omega
    clear hm2
    go_wp2_with fail
    refine (wbyte B b l 45 w HI.out (by have := HLN.out; omega) HBW.out).mono ?_
    rintro e w1 ⟨rfl, h3, hb3, hk3, hs3⟩
    have HI1 := Lib.hid h3
    have HB1 := Lib.hid hb3
    have HK1 := Lib.hid hk3
    have HS1 := Lib.hid hs3
    clear h3 hb3 hk3 hs3
    go_wp2_with fail
    refine (HIT.out _ HB1.out).mono ?_
    rintro e w2 ⟨rfl, hb2⟩
    have HI2 := Lib.hid (HI1.out.ext hb2)
    have HB2 := Lib.hid (HB1.out.trans (hb2.mono (Nat.le_trans HBW.out HS1.out)))
    have HK2 := Lib.hid (HK1.out.trans (BK.below hb2))
    have HS2 := Lib.hid (Nat.le_trans HS1.out hb2.size)
    clear hb2
    go_wp2_with fail
    refine (wstr B b (l ++ [45]) (Tx.stB (decS (m / 1000))) w2 HI2.out (by rw [Tx.stB_size]; have := HLN.out; have := HDL.out; rw [List.length_append, List.length_singleton]; omega) (Nat.le_trans HBW.out HS2.out)).mono ?_
    rintro e w3 ⟨rfl, h3, hb3, hk3, hs3⟩
    rw [Tx.stB_list] at h3
    have HI3 := Lib.hid h3
    have HB3 := Lib.hid (HB2.out.trans hb3)
    have HK3 := Lib.hid (HK2.out.trans hk3)
    have HS3 := Lib.hid (Nat.le_trans HS2.out hs3)
    clear h3 hb3 hk3 hs3
    by_cases hr0 : r = 0
    · have HF : Hid (WrPost B b l (numT (-(m : Int))) w (.returned (.tuple #[])) w3) := Lib.hid ⟨rfl, by rw [HNT.out, HR.out, hr0]; have := HI3.out; rw [← List.append_assoc]; unfold fracT; rw [if_pos rfl, List.append_nil]; exact this, HB3.out, HK3.out, HS3.out⟩
      have hrb : ¬ (0 : Int) < (m : Int) % 1000 := by have := HRI.out; omega
      subst hr0
      go_wp2_with fail
      go_end0
      exact HF.out
    · have hrb : (0 : Int) < (m : Int) % 1000 := by have := HRI.out; omega
      go_wp2_with fail
      refine (HIT2.out w3 HB3.out).mono ?_
      rintro e w4 ⟨rfl, hb4⟩
      have HI4 := Lib.hid (HI3.out.ext hb4)
      have HB4 := Lib.hid (HB3.out.trans (hb4.mono (Nat.le_trans HBW.out HS3.out)))
      have HK4 := Lib.hid (HK3.out.trans (BK.below hb4))
      have HS4 := Lib.hid (Nat.le_trans HS3.out hb4.size)
      clear hb4
      obtain ⟨st, hst⟩ : ∃ st, Tx.stB (decS (1000 + r)) = st := ⟨_, rfl⟩
      have HST := Lib.hid hst
      have hsz : st.size = 4 := by rw [← hst, Tx.stB_size]; exact four_digs HRL.out
      rw [hst]
      clear hst
      go_wp2_with fail
      have HEX : Hid (st.extract 1 4 = Tx.stB (dig3 r)) := Lib.hid (by
        have h9 := Lib.extract_from st 1
        rw [hsz, ← HST.out, Tx.stB_list, dig3_tail HRL.out] at h9
        rw [← HST.out]; exact h9)
      obtain ⟨u, hu⟩ : ∃ u, Tx.stB (Lib.trimRightB (dig3 r) 48) = u := ⟨_, rfl⟩
      have HTR : Hid (∀ W, Calls Tryd.prog 91 #[.string (st.extract 1 4), .string ⟨#[48]⟩] W fun e w' => e = .returned (.string u) ∧ w' = W) := Lib.hid (fun W => by
        have h9 := Tryd.strings_TrimRight_one (st.extract 1 4) 48 (by decide) W (by rw [HEX.out, Tx.stB_size]; show (3 : Nat) ≤ _; omega)
        rw [HEX.out, Tx.stB_list] at h9
        rw [HEX.out, ← hu]
        exact h9)
      have hus : u.size ≤ 3 := by
        rw [← hu, Tx.stB_size]
        exact Nat.le_trans (trim_len (dig3 r) 48) (Nat.le_refl 3)
      have HU := Lib.hid hu
      clear hu
      go_wp2_with fail
      refine (HTR.out w4).mono ?_
      rintro e w5 ⟨rfl, rfl⟩
      go_wp2_with fail
      refine (wstr B b _ _ w5 HI4.out (by have := HLN.out; have := HDL.out; rw [bs_app_size]; rw [List.length_append, List.length_append, List.length_singleton]; show _ + (1 + u.size) ≤ _; omega) (Nat.le_trans HBW.out HS4.out)).mono ?_
      rintro e w6 ⟨rfl, h3, hb3, hk3, hs3⟩
      have HF : Hid (WrPost B b l (numT (-(m : Int))) w (.returned (.tuple #[])) w6) := Lib.hid ⟨rfl, by
        rw [HNT.out, HR.out]
        unfold fracT
        rw [if_neg hr0, ← List.append_assoc]
        rw [bs_app_list, ← HU.out, Tx.stB_list] at h3
        exact h3, HB4.out.trans hb3, HK4.out.trans hk3, Nat.le_trans HS4.out hs3⟩
      clear h3 hb3 hk3 hs3
      go_wp2_with fail
      go_end0
      exact HF.out
  · obtain ⟨m, rfl⟩ : ∃ m : Nat, n = (m : Int) := ⟨n.toNat, by omega⟩
    have HNT : Hid (l ++ numT (m : Int) = l ++ (decS (m / 1000) ++ fracT (m % 1000))) := Lib.hid (by
      unfold numT; rw [if_neg hn, Int.natAbs_natCast]; simp)
    have hm2 : (m : Int) < 1000000000000000 := by omega
    clear hn h1 h2
    have HIT : Hid (∀ W, Below B w W → Calls Tryd.prog 90 #[.int .i64 ((m : Int) / 1000)] W fun e w' => e = .returned (.string (Tx.stB (decS (m / 1000)))) ∧ Below W.heap.size W w') := Lib.hid (fun W hW => by
      have h9 := Tx.itoa_at (m / 1000) (by omega) W (HTB.out W hW)
      rw [show ((m / 1000 : Nat) : Int) = (m : Int) / 1000 by omega] at h9
      exact h9)
    obtain ⟨r, hr⟩ : ∃ r : Nat, m % 1000 = r := ⟨_, rfl⟩
    have HR := Lib.hid hr
    have HRI : Hid ((m : Int) % 1000 = (r : Int)) := Lib.hid (by omega)
    have HRL : Hid (r < 1000) := Lib.hid (by omega)
    have HIT2 : Hid (∀ W, Below B w W → Calls Tryd.prog 90 #[.int .i64 (1000 + (m : Int) % 1000)] W fun e w' => e = .returned (.string (Tx.stB (decS (1000 + r)))) ∧ Below W.heap.size W w') := Lib.hid (fun W hW => by
      have h9 := Tx.itoa_at (1000 + r) (by omega) W (HTB.out W hW)
      rw [show ((1000 + r : Nat) : Int) = 1000 + (m : Int) % 1000 by omega] at h9
      exact h9)
    have HDL : Hid ((decS (m / 1000)).length ≤ 20) := Lib.hid (Nat.le_trans (decS_length (k := 15) (by omega) (by omega)) (by omega))
    clear hr
    have hm9 : (m : Int) ≤ 9223372036854775807 := by omega
    clear hm2
    have HB1 : Hid (Below B w w) := Lib.hid (Below.refl B w)
    have HK1 : Hid (BK b w w) := Lib.hid (BK.refl b w)
    have HS1 : Hid (w.heap.size ≤ w.heap.size) := Lib.hid (Nat.le_refl _)
    go_wp2_with fail
    refine (HIT.out _ HB1.out).mono ?_
    rintro e w2 ⟨rfl, hb2⟩
    have HI2 := Lib.hid (HI.out.ext hb2)
    have HB2 := Lib.hid (HB1.out.trans (hb2.mono (Nat.le_trans HBW.out HS1.out)))
    have HK2 := Lib.hid (HK1.out.trans (BK.below hb2))
    have HS2 := Lib.hid (Nat.le_trans HS1.out hb2.size)
    clear hb2
    go_wp2_with fail
    refine (wstr B b (l) (Tx.stB (decS (m / 1000))) w2 HI2.out (by rw [Tx.stB_size]; have := HLN.out; have := HDL.out; omega) (Nat.le_trans HBW.out HS2.out)).mono ?_
    rintro e w3 ⟨rfl, h3, hb3, hk3, hs3⟩
    rw [Tx.stB_list] at h3
    have HI3 := Lib.hid h3
    have HB3 := Lib.hid (HB2.out.trans hb3)
    have HK3 := Lib.hid (HK2.out.trans hk3)
    have HS3 := Lib.hid (Nat.le_trans HS2.out hs3)
    clear h3 hb3 hk3 hs3
    by_cases hr0 : r = 0
    · have HF : Hid (WrPost B b l (numT ((m : Int))) w (.returned (.tuple #[])) w3) := Lib.hid ⟨rfl, by rw [HNT.out, HR.out, hr0]; have := HI3.out; rw [← List.append_assoc]; unfold fracT; rw [if_pos rfl, List.append_nil]; exact this, HB3.out, HK3.out, HS3.out⟩
      have hrb : ¬ (0 : Int) < (m : Int) % 1000 := by have := HRI.out; omega
      subst hr0
      go_wp2_with fail
      go_end0
      exact HF.out
    · have hrb : (0 : Int) < (m : Int) % 1000 := by have := HRI.out; omega
      go_wp2_with fail
      refine (HIT2.out w3 HB3.out).mono ?_
      rintro e w4 ⟨rfl, hb4⟩
      have HI4 := Lib.hid (HI3.out.ext hb4)
      have HB4 := Lib.hid (HB3.out.trans (hb4.mono (Nat.le_trans HBW.out HS3.out)))
      have HK4 := Lib.hid (HK3.out.trans (BK.below hb4))
      have HS4 := Lib.hid (Nat.le_trans HS3.out hb4.size)
      clear hb4
      obtain ⟨st, hst⟩ : ∃ st, Tx.stB (decS (1000 + r)) = st := ⟨_, rfl⟩
      have HST := Lib.hid hst
      have hsz : st.size = 4 := by rw [← hst, Tx.stB_size]; exact four_digs HRL.out
      rw [hst]
      clear hst
      go_wp2_with fail
      have HEX : Hid (st.extract 1 4 = Tx.stB (dig3 r)) := Lib.hid (by
        have h9 := Lib.extract_from st 1
        rw [hsz, ← HST.out, Tx.stB_list, dig3_tail HRL.out] at h9
        rw [← HST.out]; exact h9)
      obtain ⟨u, hu⟩ : ∃ u, Tx.stB (Lib.trimRightB (dig3 r) 48) = u := ⟨_, rfl⟩
      have HTR : Hid (∀ W, Calls Tryd.prog 91 #[.string (st.extract 1 4), .string ⟨#[48]⟩] W fun e w' => e = .returned (.string u) ∧ w' = W) := Lib.hid (fun W => by
        have h9 := Tryd.strings_TrimRight_one (st.extract 1 4) 48 (by decide) W (by rw [HEX.out, Tx.stB_size]; show (3 : Nat) ≤ _; omega)
        rw [HEX.out, Tx.stB_list] at h9
        rw [HEX.out, ← hu]
        exact h9)
      have hus : u.size ≤ 3 := by
        rw [← hu, Tx.stB_size]
        exact Nat.le_trans (trim_len (dig3 r) 48) (Nat.le_refl 3)
      have HU := Lib.hid hu
      clear hu
      go_wp2_with fail
      refine (HTR.out w4).mono ?_
      rintro e w5 ⟨rfl, rfl⟩
      go_wp2_with fail
      refine (wstr B b _ _ w5 HI4.out (by have := HLN.out; have := HDL.out; rw [bs_app_size]; rw [List.length_append]; show _ + (1 + u.size) ≤ _; omega) (Nat.le_trans HBW.out HS4.out)).mono ?_
      rintro e w6 ⟨rfl, h3, hb3, hk3, hs3⟩
      have HF : Hid (WrPost B b l (numT ((m : Int))) w (.returned (.tuple #[])) w6) := Lib.hid ⟨rfl, by
        rw [HNT.out, HR.out]
        unfold fracT
        rw [if_neg hr0, ← List.append_assoc]
        rw [bs_app_list, ← HU.out, Tx.stB_list] at h3
        exact h3, HB4.out.trans hb3, HK4.out.trans hk3, Nat.le_trans HS4.out hs3⟩
      clear h3 hb3 hk3 hs3
      go_wp2_with fail
      go_end0
      exact HF.out
end Fd
end Go.Proofs.YtbhcfmdogdaodaaDoor
namespace Go.Proofs.YtbhcfmdogdaodaaDoor
open Go.RowKit
namespace Fd
open _root_.Go.Proofs.YtbhcfmdogdaodaaDoor.Nt (RH RH.cell RH.box RH.lt RH.new RH.ext RH.fre RH.set RH.other)
open _root_.Go.Proofs.YtbhcfmdogdaodaaDoor.Rw (All2 All2.get All2.length wpList_load_agg wp_stored)
theorem below_on {B : Nat} {P : World → Prop} {w w' : World} (h : On (fun q => q < B) P w) (hb : Below B w w') (hs : w.heap.size ≤ w'.heap.size) : On (fun q => q < B) P w' := h.keep hs (fun q _ h2 => hb.block q h2)
theorem comma_le (l : List (List UInt8)) (k : Nat) : (commaL (l.take k)).length ≤ (commaL l).length := by
  have key : ∀ a b : List (List UInt8), (commaL a).length ≤ (commaL (a ++ b)).length := by
    intro a b
    cases a with
    | nil => simp [commaL]
    | cons x r =>
      have hr : ∀ c d : List (List UInt8), runL (c ++ d) = runL c ++ runL d := by
        intro c d
        induction c with
        | nil => rfl
        | cons y s ih => rw [List.cons_append, runL, runL, ih]; simp
      rw [List.cons_append, comma_run, comma_run, hr, List.length_append, List.length_append, List.length_append]
      omega
  have h := key (l.take k) (l.drop k)
  rwa [List.take_append_drop] at h
theorem isb_lt {B b : Nat} {l : List UInt8} {w : World} (h : IsB B b l w) : b < w.heap.size := by
  rcases h with h | h
  · exact h.lt
  · exact h.lt
theorem num_range {n : Int} {s : ByteArray} {is : List V} {fs : List F} (h : chkV (.mk 2 n s is fs) = 0) : -1000000000000000 < n ∧ n < 1000000000000000 := by
  obtain ⟨h1, _⟩ := chkV_ok h
  unfold ownF at h1; split at h1 <;> (try split at h1) <;> (try split at h1) <;> (try split at h1) <;> (try split at h1) <;> (try split at h1) <;> (try (simp at h1; done)) <;> omega
theorem text_range {n : Int} {s : ByteArray} {is : List V} {fs : List F} (h : chkV (.mk 3 n s is fs) = 0) : s.size ≤ 500 := by
  obtain ⟨h1, _⟩ := chkV_ok h
  unfold ownF at h1; split at h1 <;> (try split at h1) <;> (try split at h1) <;> (try split at h1) <;> (try split at h1) <;> (try split at h1) <;> (try (simp at h1; done)) <;> omega
def ShAt (x : V) : Prop := ∀ (B b : Nat) (l : List UInt8) (cs : List Value) (w : World), On (fun q => q < B) (fun Z => RepV Z x cs) w → IsB B b l w → l.length + (wrV x).length ≤ 1000000000 → B ≤ w.heap.size → (∀ W, Below B w W → Tx.Tb W) → chkV x = 0 →
  Calls Tryd.prog 40 #[.pointer (some ⟨b, 0, none⟩), .agg cs.toArray] w (WrPost B b l (wrV x) w)
theorem formatBool_at (bb : Bool) (w : World) : Calls Tryd.prog 68 #[.bool bb] w fun e w' => e = .returned (.string (Tx.stB (if bb = true then [116, 114, 117, 101] else [102, 97, 108, 115, 101]))) ∧ w' = w := by
  have hi : Calls Tryd.prog 89 #[.bool bb] w fun e w' => e = .returned (.string (Tx.stB (if bb = true then [116, 114, 117, 101] else [102, 97, 108, 115, 101]))) ∧ w' = w := by
    go_enter Tryd.func89, Tryd.ntmps89
    cases bb
    · go_wp2
      go_ret
      exact ⟨rfl, rfl⟩
    · go_wp2
      go_ret
      exact ⟨rfl, rfl⟩
  go_enter Tryd.func68, Tryd.ntmps68
  cases bb
  · go_wp2_with fail
    refine hi.mono ?_
    rintro e w' ⟨rfl, rfl⟩
    go_wp2
    go_ret
    exact ⟨rfl, rfl⟩
  · go_wp2_with fail
    refine hi.mono ?_
    rintro e w' ⟨rfl, rfl⟩
    go_wp2
    go_ret
    exact ⟨rfl, rfl⟩
set_option maxRecDepth 100000 in
set_option maxHeartbeats 16000000 in
theorem sh_none (n : Int) (s : ByteArray) (is : List V) (fs : List F) : ShAt (.mk 0 n s is fs) := by
  intro B b l cs w hx hI hlen hBw hTB hck
  obtain ⟨ai, ci, af, cf, EF, rfl, i1, i2, i3, hIS0, hFS⟩ := on_open hx
  obtain ⟨EI, hIS⟩ := on_fix (k := 5) (by omega) (fun _ _ _ h => RepV.len h) hIS0
  clear hIS0
  have HI := Lib.hid hI
  have HLN := Lib.hid hlen
  have HBW := Lib.hid hBw
  have HTB := Lib.hid hTB
  have HCK := Lib.hid hck
  have HIS := Lib.hid hIS
  have HFS := Lib.hid hFS
  have HBL : Hid (b < w.heap.size) := Lib.hid (isb_lt hI)
  clear hx hI hlen hBw hTB hck hIS hFS i1 i2 i3
  go_enter Tryd.func40, Tryd.ntmps40
  go_upto_region 1 with (fail)
  refine Tx.wp_vr1 fun W hbW hR1 => ?_
  obtain ⟨a0, a1, a2, a3, a4⟩ := va5 hR1
  have HI0 := Lib.hid (IsB.ext HI.out hbW)
  have HB0 : Hid (Below B w W) := Lib.hid (hbW.mono HBW.out)
  have HK0 := Lib.hid (BK.below (b := b) hbW)
  have HS0 := Lib.hid hbW.size
  have HR1 := Lib.hid hR1
  clear hR1 hbW
  go_wp2_with fail
  refine (wstr B b l (Tx.stB [110, 117, 108, 108]) W HI0.out (by rw [Tx.stB_size]; have := HLN.out; simp only [List.length_cons, List.length_nil]; omega) (Nat.le_trans HBW.out HS0.out)).mono ?_
  rintro e w3 ⟨rfl, h3, hb3, hk3, hs3⟩
  have HF : Hid (WrPost B b l (wrV (.mk 0 n s is fs)) w (.returned (.tuple #[])) w3) := Lib.hid ⟨rfl, by simpa [wrV, Tx.stB_list] using h3, HB0.out.trans hb3, HK0.out.trans hk3, Nat.le_trans HS0.out hs3⟩
  clear h3 hb3 hk3 hs3
  go_wp2_with fail
  go_end0
  exact HF.out
set_option maxRecDepth 100000 in
set_option maxHeartbeats 16000000 in
theorem sh_bool (n : Int) (s : ByteArray) (is : List V) (fs : List F) : ShAt (.mk 1 n s is fs) := by
  intro B b l cs w hx hI hlen hBw hTB hck
  obtain ⟨ai, ci, af, cf, EF, rfl, i1, i2, i3, hIS0, hFS⟩ := on_open hx
  obtain ⟨EI, hIS⟩ := on_fix (k := 5) (by omega) (fun _ _ _ h => RepV.len h) hIS0
  clear hIS0
  have HI := Lib.hid hI
  have HLN := Lib.hid hlen
  have HBW := Lib.hid hBw
  have HTB := Lib.hid hTB
  have HCK := Lib.hid hck
  have HIS := Lib.hid hIS
  have HFS := Lib.hid hFS
  have HBL : Hid (b < w.heap.size) := Lib.hid (isb_lt hI)
  clear hx hI hlen hBw hTB hck hIS hFS i1 i2 i3
  go_enter Tryd.func40, Tryd.ntmps40
  go_upto_region 1 with (fail)
  refine Tx.wp_vr1 fun W hbW hR1 => ?_
  obtain ⟨a0, a1, a2, a3, a4⟩ := va5 hR1
  have HI0 := Lib.hid (IsB.ext HI.out hbW)
  have HB0 : Hid (Below B w W) := Lib.hid (hbW.mono HBW.out)
  have HK0 := Lib.hid (BK.below (b := b) hbW)
  have HS0 := Lib.hid hbW.size
  have HR1 := Lib.hid hR1
  clear hR1 hbW
  have hn : n = 1 ∨ n ≠ 1 := by omega
  rcases hn with hn | hn
  · have hnb : (n == 1) = true := by simpa using hn
    have HW : Hid (wrV (.mk 1 n s is fs) = [116, 114, 117, 101]) := Lib.hid (by simp [wrV, hn])
    clear hn
    go_wp2_with fail
    refine (formatBool_at true W).mono ?_
    rintro e w9 ⟨rfl, rfl⟩
    go_wp2_with fail
    refine (wstr B b l (Tx.stB [116, 114, 117, 101]) w9 HI0.out (by rw [Tx.stB_size]; have := HLN.out; simp only [List.length_cons, List.length_nil]; omega) (Nat.le_trans HBW.out HS0.out)).mono ?_
    rintro e w3 ⟨rfl, h3, hb3, hk3, hs3⟩
    have HF : Hid (WrPost B b l (wrV (.mk 1 n s is fs)) w (.returned (.tuple #[])) w3) := Lib.hid ⟨rfl, by rw [HW.out]; exact h3, HB0.out.trans hb3, HK0.out.trans hk3, Nat.le_trans HS0.out hs3⟩
    clear h3 hb3 hk3 hs3
    go_wp2_with fail
    go_end0
    exact HF.out
  · have hnb : (n == 1) = false := by simpa using hn
    have HW : Hid (wrV (.mk 1 n s is fs) = [102, 97, 108, 115, 101]) := Lib.hid (by simp [wrV, hn])
    clear hn
    go_wp2_with fail
    refine (formatBool_at false W).mono ?_
    rintro e w9 ⟨rfl, rfl⟩
    go_wp2_with fail
    refine (wstr B b l (Tx.stB [102, 97, 108, 115, 101]) w9 HI0.out (by rw [Tx.stB_size]; have := HLN.out; simp only [List.length_cons, List.length_nil]; omega) (Nat.le_trans HBW.out HS0.out)).mono ?_
    rintro e w3 ⟨rfl, h3, hb3, hk3, hs3⟩
    have HF : Hid (WrPost B b l (wrV (.mk 1 n s is fs)) w (.returned (.tuple #[])) w3) := Lib.hid ⟨rfl, by rw [HW.out]; exact h3, HB0.out.trans hb3, HK0.out.trans hk3, Nat.le_trans HS0.out hs3⟩
    clear h3 hb3 hk3 hs3
    go_wp2_with fail
    go_end0
    exact HF.out
set_option maxRecDepth 100000 in
set_option maxHeartbeats 16000000 in
theorem sh_num (n : Int) (s : ByteArray) (is : List V) (fs : List F) : ShAt (.mk 2 n s is fs) := by
  intro B b l cs w hx hI hlen hBw hTB hck
  obtain ⟨ai, ci, af, cf, EF, rfl, i1, i2, i3, hIS0, hFS⟩ := on_open hx
  obtain ⟨EI, hIS⟩ := on_fix (k := 5) (by omega) (fun _ _ _ h => RepV.len h) hIS0
  clear hIS0
  have HI := Lib.hid hI
  have HLN := Lib.hid hlen
  have HBW := Lib.hid hBw
  have HTB := Lib.hid hTB
  have HCK := Lib.hid hck
  have HIS := Lib.hid hIS
  have HFS := Lib.hid hFS
  have HBL : Hid (b < w.heap.size) := Lib.hid (isb_lt hI)
  clear hx hI hlen hBw hTB hck hIS hFS i1 i2 i3
  go_enter Tryd.func40, Tryd.ntmps40
  go_upto_region 1 with (fail)
  refine Tx.wp_vr1 fun W hbW hR1 => ?_
  obtain ⟨a0, a1, a2, a3, a4⟩ := va5 hR1
  have HI0 := Lib.hid (IsB.ext HI.out hbW)
  have HB0 : Hid (Below B w W) := Lib.hid (hbW.mono HBW.out)
  have HK0 := Lib.hid (BK.below (b := b) hbW)
  have HS0 := Lib.hid hbW.size
  have HR1 := Lib.hid hR1
  clear hR1 hbW
  have HW : Hid (wrV (.mk 2 n s is fs) = numT n) := Lib.hid (by simp [wrV])
  have HNR : Hid (-1000000000000000 < n ∧ n < 1000000000000000) := Lib.hid (num_range HCK.out)
  go_wp2_with fail
  refine (thousandths_at B b l n W (HTB.out W HB0.out) HI0.out (by have := HLN.out; omega) (Nat.le_trans HBW.out HS0.out) (fun X hX => HTB.out X (HB0.out.trans hX)) HNR.out.1 HNR.out.2).mono ?_
  rintro e w3 ⟨rfl, h3, hb3, hk3, hs3⟩
  have HF : Hid (WrPost B b l (wrV (.mk 2 n s is fs)) w (.returned (.tuple #[])) w3) := Lib.hid ⟨rfl, by rw [HW.out]; exact h3, HB0.out.trans hb3, HK0.out.trans hk3, Nat.le_trans HS0.out hs3⟩
  clear h3 hb3 hk3 hs3
  go_wp2_with fail
  go_end0
  exact HF.out
set_option maxRecDepth 100000 in
set_option maxHeartbeats 16000000 in
theorem sh_text (n : Int) (s : ByteArray) (is : List V) (fs : List F) : ShAt (.mk 3 n s is fs) := by
  intro B b l cs w hx hI hlen hBw hTB hck
  obtain ⟨ai, ci, af, cf, EF, rfl, i1, i2, i3, hIS0, hFS⟩ := on_open hx
  obtain ⟨EI, hIS⟩ := on_fix (k := 5) (by omega) (fun _ _ _ h => RepV.len h) hIS0
  clear hIS0
  have HI := Lib.hid hI
  have HLN := Lib.hid hlen
  have HBW := Lib.hid hBw
  have HTB := Lib.hid hTB
  have HCK := Lib.hid hck
  have HIS := Lib.hid hIS
  have HFS := Lib.hid hFS
  have HBL : Hid (b < w.heap.size) := Lib.hid (isb_lt hI)
  clear hx hI hlen hBw hTB hck hIS hFS i1 i2 i3
  go_enter Tryd.func40, Tryd.ntmps40
  go_upto_region 1 with (fail)
  refine Tx.wp_vr1 fun W hbW hR1 => ?_
  obtain ⟨a0, a1, a2, a3, a4⟩ := va5 hR1
  have HI0 := Lib.hid (IsB.ext HI.out hbW)
  have HB0 : Hid (Below B w W) := Lib.hid (hbW.mono HBW.out)
  have HK0 := Lib.hid (BK.below (b := b) hbW)
  have HS0 := Lib.hid hbW.size
  have HR1 := Lib.hid hR1
  clear hR1 hbW
  have HW : Hid (wrV (.mk 3 n s is fs) = quoL s.data.toList) := Lib.hid (by simp [wrV])
  have HSZ : Hid (s.size ≤ 500) := Lib.hid (text_range HCK.out)
  go_wp2_with fail
  refine (quote_at B b l s W HI0.out (by have := HLN.out; have := HSZ.out; omega) (Nat.le_trans HBW.out HS0.out)).mono ?_
  rintro e w3 ⟨rfl, h3, hb3, hk3, hs3⟩
  have HF : Hid (WrPost B b l (wrV (.mk 3 n s is fs)) w (.returned (.tuple #[])) w3) := Lib.hid ⟨rfl, by rw [HW.out]; exact h3, HB0.out.trans hb3, HK0.out.trans hk3, Nat.le_trans HS0.out hs3⟩
  clear h3 hb3 hk3 hs3
  go_wp2_with fail
  go_end0
  exact HF.out
end Fd
end Go.Proofs.YtbhcfmdogdaodaaDoor
