/- thousandths of package value. Printed by gen_vsh.py. Rows and slices of texts, as the walks carry them (VrH without versions). merge of package value. Printed by gen_vmrg.py. seen and spare of package value. Printed by gen_vchk.py. -/
import Derived.Test.YtkjgifhklajifaaDoorDv08
import Derived.Test.YtkjgifhklajifaaDoorShelf
import Derived.Test.YtkjgifhklajifaaDoorDv02
import Derived.Test.YtkjgifhklajifaaDoorDv07
import Derived.Test.YtkjgifhklajifaaDoorDv06
import Derived.Test.YtkjgifhklajifaaDoorDv03
import Derived.Test.YtkjgifhklajifaaDoorDv04
import Derived.Test.YtkjgifhklajifaaDoorDv00
import Derived.Deep.RegionWith
import Derived.Deep.LoopGhost
import Derived.Deep.QuietTactic
import Derived.Deep.Cut
import Derived.Deep.RegionLaw
import Derived.Sort.WalkB12
import Derived.Lib.SlicesDelete
import Derived.Lib.Walk
import Derived.Maps.AppendAt
import Derived.Test.YtkjgifhklajifaaDoorDv01
import Derived.Deep.DeepCutAuto
namespace Go.Proofs.YtkjgifhklajifaaDoor
open Go.RowKit
namespace Fd
open _root_.Go.Proofs.YtkjgifhklajifaaDoor.Nt (RH RH.cell RH.box RH.lt RH.new RH.ext RH.fre RH.set RH.other)
open _root_.Go.Proofs.YtkjgifhklajifaaDoor.Rw (All2 All2.get All2.length wpList_load_agg wp_stored)
open _root_.Go.Proofs.YtkjgifhklajifaaDoor.Nm
theorem isb_ext {T e : TypeId} {B b : Nat} {bs : List Value} {w w' : World} (h : Lib.IsBuilder T e B b bs w) (hb : Below w.heap.size w w') : Lib.IsBuilder T e B b bs w' := by
  have go : ∀ p, Lib.BuilderAt T e B b p bs w → Lib.BuilderAt T e B b p bs w' := fun p h => by
    have hlt := h.lt
    obtain ⟨h1, v, h2, h3, h4⟩ := h
    exact ⟨h1, v, by rw [hb.block b hlt]; exact h2, ownsRow_ext h3 hb, h4⟩
  rcases h with h | h
  · exact .inl (go _ h)
  · exact .inr (go _ h)
theorem IsB.ext {B b : Nat} {l : List UInt8} {w w' : World} (h : IsB B b l w) (hb : Below w.heap.size w w') : IsB B b l w' := isb_ext h hb
theorem bs_app_size (a b : ByteArray) : (a ++ b).size = a.size + b.size := ByteArray.size_append
theorem bs_app_list (a b : ByteArray) : (a ++ b).data.toList = a.data.toList ++ b.data.toList := by rw [ByteArray.data_append, Array.toList_append]
theorem trim_len (l : List UInt8) (c : UInt8) : (Lib.trimRightB l c).length ≤ l.length := by
  unfold Lib.trimRightB
  rw [List.length_reverse]
  exact Nat.le_trans (List.dropWhile_sublist _).length_le (by rw [List.length_reverse]; exact Nat.le_refl _)
theorem four_digs {r : Nat} (h : r < 1000) : (decS (1000 + r)).length = 4 := by
  have e1 : (1000 + r) / 10 = 100 + r / 10 := by omega
  have e2 : (100 + r / 10) / 10 = 10 + r / 100 := by omega
  have e3 : (10 + r / 100) / 10 = 1 := by omega
  rw [decS_big (by omega), e1, decS_big (by omega), e2, decS_big (by omega), e3, decS_small (by omega)]
  rfl
set_option maxRecDepth 100000 in
set_option maxHeartbeats 16000000 in
theorem thousandths_at (B b : Nat) (l : List UInt8) (n : Int) (w : World) (_hT : Tx.Tb w) (h : IsB B b l w) (hlen : l.length ≤ 140737488300000) (hBw : B ≤ w.heap.size) (hTB : ∀ W, Below B w W → Tx.Tb W) (h1 : -1000000000000000 < n) (h2 : n < 1000000000000000) :
    Calls Tryd.prog 75 #[.pointer (some ⟨b, 0, none⟩), .int .i64 n] w (WrPost B b l (numT n) w) := by
  have HI := Lib.hid h
  have HTB := Lib.hid hTB
  have HLN := Lib.hid hlen
  have HBW := Lib.hid hBw
  clear h hTB hlen hBw
  go_enter Tryd.func75, Tryd.ntmps75
  by_cases hn : n < 0
  · obtain ⟨m, rfl⟩ : ∃ m : Nat, n = -(m : Int) := ⟨n.natAbs, by omega⟩
    have hm : (0 : Int) < (m : Int) := by omega
    have HNT : Hid (l ++ numT (-(m : Int)) = (l ++ [45]) ++ (decS (m / 1000) ++ fracT (m % 1000))) := Lib.hid (by
      unfold numT; rw [if_pos hn, Int.natAbs_neg, Int.natAbs_natCast]; simp)
    have hm2 : (m : Int) < 1000000000000000 := by omega
    clear hn h1 h2
    have HIT : Hid (∀ W, Below B w W → Calls Tryd.prog 78 #[.int .i64 ((m : Int) / 1000)] W fun e w' => e = .returned (.string (Tx.stB (decS (m / 1000)))) ∧ Below W.heap.size W w') := Lib.hid (fun W hW => by
      have h9 := Tx.itoa_at (m / 1000) (by omega) W (HTB.out W hW)
      rw [show ((m / 1000 : Nat) : Int) = (m : Int) / 1000 by omega] at h9
      exact h9)
    obtain ⟨r, hr⟩ : ∃ r : Nat, m % 1000 = r := ⟨_, rfl⟩
    have HR := Lib.hid hr
    have HRI : Hid ((m : Int) % 1000 = (r : Int)) := Lib.hid (by omega)
    have HRL : Hid (r < 1000) := Lib.hid (by omega)
    have HIT2 : Hid (∀ W, Below B w W → Calls Tryd.prog 78 #[.int .i64 (1000 + (m : Int) % 1000)] W fun e w' => e = .returned (.string (Tx.stB (decS (1000 + r)))) ∧ Below W.heap.size W w') := Lib.hid (fun W hW => by
      have h9 := Tx.itoa_at (1000 + r) (by omega) W (HTB.out W hW)
      rw [show ((1000 + r : Nat) : Int) = 1000 + (m : Int) % 1000 by omega] at h9
      exact h9)
    have HDL : Hid ((decS (m / 1000)).length ≤ 20) := Lib.hid (Nat.le_trans (decS_length (k := 15) (by omega) (by omega)) (by omega))
    clear hr
    have hm9 : (m : Int) ≤ 9223372036854775807 := by omega
    clear hm2
    go_wp2_with fail
    refine (wbyte B b l 45 w HI.out (by have := HLN.out; omega) HBW.out).mono ?_
    rintro e w1 ⟨rfl, h3, hb3, hk3, hs3⟩
    have HI1 := Lib.hid h3
    have HB1 := Lib.hid hb3
    have HK1 := Lib.hid hk3
    have HS1 := Lib.hid hs3
    clear h3 hb3 hk3 hs3
    go_wp2_with fail
    refine (HIT.out _ HB1.out).mono ?_
    rintro e w2 ⟨rfl, hb2⟩
    have HI2 := Lib.hid (HI1.out.ext hb2)
    have HB2 := Lib.hid (HB1.out.trans (hb2.mono (Nat.le_trans HBW.out HS1.out)))
    have HK2 := Lib.hid (HK1.out.trans (BK.below hb2))
    have HS2 := Lib.hid (Nat.le_trans HS1.out hb2.size)
    clear hb2
    go_wp2_with fail
    refine (wstr B b (l ++ [45]) (Tx.stB (decS (m / 1000))) w2 HI2.out (by rw [Tx.stB_size]; have := HLN.out; have := HDL.out; rw [List.length_append, List.length_singleton]; omega) (Nat.le_trans HBW.out HS2.out)).mono ?_
    rintro e w3 ⟨rfl, h3, hb3, hk3, hs3⟩
    rw [Tx.stB_list] at h3
    have HI3 := Lib.hid h3
    have HB3 := Lib.hid (HB2.out.trans hb3)
    have HK3 := Lib.hid (HK2.out.trans hk3)
    have HS3 := Lib.hid (Nat.le_trans HS2.out hs3)
    clear h3 hb3 hk3 hs3
    by_cases hr0 : r = 0
    · have HF : Hid (WrPost B b l (numT (-(m : Int))) w (.returned (.tuple #[])) w3) := Lib.hid ⟨rfl, by rw [HNT.out, HR.out, hr0]; have := HI3.out; rw [← List.append_assoc]; unfold fracT; rw [if_pos rfl, List.append_nil]; exact this, HB3.out, HK3.out, HS3.out⟩
      have hrb : ¬ (0 : Int) < (m : Int) % 1000 := by have := HRI.out; omega
      subst hr0
      go_wp2_with fail
      go_end0
      exact HF.out
    · have hrb : (0 : Int) < (m : Int) % 1000 := by have := HRI.out; omega
      go_wp2_with fail
      refine (HIT2.out w3 HB3.out).mono ?_
      rintro e w4 ⟨rfl, hb4⟩
      have HI4 := Lib.hid (HI3.out.ext hb4)
      have HB4 := Lib.hid (HB3.out.trans (hb4.mono (Nat.le_trans HBW.out HS3.out)))
      have HK4 := Lib.hid (HK3.out.trans (BK.below hb4))
      have HS4 := Lib.hid (Nat.le_trans HS3.out hb4.size)
      clear hb4
      obtain ⟨st, hst⟩ : ∃ st, Tx.stB (decS (1000 + r)) = st := ⟨_, rfl⟩
      have HST := Lib.hid hst
      have hsz : st.size = 4 := by rw [← hst, Tx.stB_size]; exact four_digs HRL.out
      rw [hst]
      clear hst
      go_wp2_with fail
      have HEX : Hid (st.extract 1 4 = Tx.stB (dig3 r)) := Lib.hid (by
        have h9 := Lib.extract_from st 1
        rw [hsz, ← HST.out, Tx.stB_list, dig3_tail HRL.out] at h9
        rw [← HST.out]; exact h9)
      obtain ⟨u, hu⟩ : ∃ u, Tx.stB (Lib.trimRightB (dig3 r) 48) = u := ⟨_, rfl⟩
      have HTR : Hid (∀ W, Calls Tryd.prog 79 #[.string (st.extract 1 4), .string ⟨#[48]⟩] W fun e w' => e = .returned (.string u) ∧ w' = W) := Lib.hid (fun W => by
        have h9 := Tryd.strings_TrimRight_one (st.extract 1 4) 48 (by decide) W (by rw [HEX.out, Tx.stB_size]; show (3 : Nat) ≤ _; omega)
        rw [HEX.out, Tx.stB_list] at h9
        rw [HEX.out, ← hu]
        exact h9)
      have hus : u.size ≤ 3 := by
        rw [← hu, Tx.stB_size]
        exact Nat.le_trans (trim_len (dig3 r) 48) (Nat.le_refl 3)
      have HU := Lib.hid hu
      clear hu
      go_wp2_with fail
      refine (HTR.out w4).mono ?_
      rintro e w5 ⟨rfl, rfl⟩
      go_wp2_with fail
      refine (wstr B b _ _ w5 HI4.out (by have := HLN.out; have := HDL.out; rw [bs_app_size]; rw [List.length_append, List.length_append, List.length_singleton]; show _ + (1 + u.size) ≤ _; omega) (Nat.le_trans HBW.out HS4.out)).mono ?_
      rintro e w6 ⟨rfl, h3, hb3, hk3, hs3⟩
      have HF : Hid (WrPost B b l (numT (-(m : Int))) w (.returned (.tuple #[])) w6) := Lib.hid ⟨rfl, by
        rw [HNT.out, HR.out]
        unfold fracT
        rw [if_neg hr0, ← List.append_assoc]
        rw [bs_app_list, ← HU.out, Tx.stB_list] at h3
        exact h3, HB4.out.trans hb3, HK4.out.trans hk3, Nat.le_trans HS4.out hs3⟩
      clear h3 hb3 hk3 hs3
      go_wp2_with fail
      go_end0
      exact HF.out
  · obtain ⟨m, rfl⟩ : ∃ m : Nat, n = (m : Int) := ⟨n.toNat, by omega⟩
    have HNT : Hid (l ++ numT (m : Int) = l ++ (decS (m / 1000) ++ fracT (m % 1000))) := Lib.hid (by
      unfold numT; rw [if_neg hn, Int.natAbs_natCast]; simp)
    have hm2 : (m : Int) < 1000000000000000 := by omega
    clear hn h1 h2
    have HIT : Hid (∀ W, Below B w W → Calls Tryd.prog 78 #[.int .i64 ((m : Int) / 1000)] W fun e w' => e = .returned (.string (Tx.stB (decS (m / 1000)))) ∧ Below W.heap.size W w') := Lib.hid (fun W hW => by
      have h9 := Tx.itoa_at (m / 1000) (by omega) W (HTB.out W hW)
      rw [show ((m / 1000 : Nat) : Int) = (m : Int) / 1000 by omega] at h9
      exact h9)
    obtain ⟨r, hr⟩ : ∃ r : Nat, m % 1000 = r := ⟨_, rfl⟩
    have HR := Lib.hid hr
    have HRI : Hid ((m : Int) % 1000 = (r : Int)) := Lib.hid (by omega)
    have HRL : Hid (r < 1000) := Lib.hid (by omega)
    have HIT2 : Hid (∀ W, Below B w W → Calls Tryd.prog 78 #[.int .i64 (1000 + (m : Int) % 1000)] W fun e w' => e = .returned (.string (Tx.stB (decS (1000 + r)))) ∧ Below W.heap.size W w') := Lib.hid (fun W hW => by
      have h9 := Tx.itoa_at (1000 + r) (by omega) W (HTB.out W hW)
      rw [show ((1000 + r : Nat) : Int) = 1000 + (m : Int) % 1000 by omega] at h9
      exact h9)
    have HDL : Hid ((decS (m / 1000)).length ≤ 20) := Lib.hid (Nat.le_trans (decS_length (k := 15) (by omega) (by omega)) (by omega))
    clear hr
    have hm9 : (m : Int) ≤ 9223372036854775807 := by omega
    clear hm2
    have HB1 : Hid (Below B w w) := Lib.hid (Below.refl B w)
    have HK1 : Hid (BK b w w) := Lib.hid (BK.refl b w)
    have HS1 : Hid (w.heap.size ≤ w.heap.size) := Lib.hid (Nat.le_refl _)
    go_wp2_with fail
    refine (HIT.out _ HB1.out).mono ?_
    rintro e w2 ⟨rfl, hb2⟩
    have HI2 := Lib.hid (HI.out.ext hb2)
    have HB2 := Lib.hid (HB1.out.trans (hb2.mono (Nat.le_trans HBW.out HS1.out)))
    have HK2 := Lib.hid (HK1.out.trans (BK.below hb2))
    have HS2 := Lib.hid (Nat.le_trans HS1.out hb2.size)
    clear hb2
    go_wp2_with fail
    refine (wstr B b (l) (Tx.stB (decS (m / 1000))) w2 HI2.out (by rw [Tx.stB_size]; have := HLN.out; have := HDL.out; omega) (Nat.le_trans HBW.out HS2.out)).mono ?_
    rintro e w3 ⟨rfl, h3, hb3, hk3, hs3⟩
    rw [Tx.stB_list] at h3
    have HI3 := Lib.hid h3
    have HB3 := Lib.hid (HB2.out.trans hb3)
    have HK3 := Lib.hid (HK2.out.trans hk3)
    have HS3 := Lib.hid (Nat.le_trans HS2.out hs3)
    clear h3 hb3 hk3 hs3
    by_cases hr0 : r = 0
    · have HF : Hid (WrPost B b l (numT ((m : Int))) w (.returned (.tuple #[])) w3) := Lib.hid ⟨rfl, by rw [HNT.out, HR.out, hr0]; have := HI3.out; rw [← List.append_assoc]; unfold fracT; rw [if_pos rfl, List.append_nil]; exact this, HB3.out, HK3.out, HS3.out⟩
      have hrb : ¬ (0 : Int) < (m : Int) % 1000 := by have := HRI.out; omega
      subst hr0
      go_wp2_with fail
      go_end0
      exact HF.out
    · have hrb : (0 : Int) < (m : Int) % 1000 := by have := HRI.out; omega
      go_wp2_with fail
      refine (HIT2.out w3 HB3.out).mono ?_
      rintro e w4 ⟨rfl, hb4⟩
      have HI4 := Lib.hid (HI3.out.ext hb4)
      have HB4 := Lib.hid (HB3.out.trans (hb4.mono (Nat.le_trans HBW.out HS3.out)))
      have HK4 := Lib.hid (HK3.out.trans (BK.below hb4))
      have HS4 := Lib.hid (Nat.le_trans HS3.out hb4.size)
      clear hb4
      obtain ⟨st, hst⟩ : ∃ st, Tx.stB (decS (1000 + r)) = st := ⟨_, rfl⟩
      have HST := Lib.hid hst
      have hsz : st.size = 4 := by rw [← hst, Tx.stB_size]; exact four_digs HRL.out
      rw [hst]
      clear hst
      go_wp2_with fail
      have HEX : Hid (st.extract 1 4 = Tx.stB (dig3 r)) := Lib.hid (by
        have h9 := Lib.extract_from st 1
        rw [hsz, ← HST.out, Tx.stB_list, dig3_tail HRL.out] at h9
        rw [← HST.out]; exact h9)
      obtain ⟨u, hu⟩ : ∃ u, Tx.stB (Lib.trimRightB (dig3 r) 48) = u := ⟨_, rfl⟩
      have HTR : Hid (∀ W, Calls Tryd.prog 79 #[.string (st.extract 1 4), .string ⟨#[48]⟩] W fun e w' => e = .returned (.string u) ∧ w' = W) := Lib.hid (fun W => by
        have h9 := Tryd.strings_TrimRight_one (st.extract 1 4) 48 (by decide) W (by rw [HEX.out, Tx.stB_size]; show (3 : Nat) ≤ _; omega)
        rw [HEX.out, Tx.stB_list] at h9
        rw [HEX.out, ← hu]
        exact h9)
      have hus : u.size ≤ 3 := by
        rw [← hu, Tx.stB_size]
        exact Nat.le_trans (trim_len (dig3 r) 48) (Nat.le_refl 3)
      have HU := Lib.hid hu
      clear hu
      go_wp2_with fail
      refine (HTR.out w4).mono ?_
      rintro e w5 ⟨rfl, rfl⟩
      go_wp2_with fail
      refine (wstr B b _ _ w5 HI4.out (by have := HLN.out; have := HDL.out; rw [bs_app_size]; rw [List.length_append]; show _ + (1 + u.size) ≤ _; omega) (Nat.le_trans HBW.out HS4.out)).mono ?_
      rintro e w6 ⟨rfl, h3, hb3, hk3, hs3⟩
      have HF : Hid (WrPost B b l (numT ((m : Int))) w (.returned (.tuple #[])) w6) := Lib.hid ⟨rfl, by
        rw [HNT.out, HR.out]
        unfold fracT
        rw [if_neg hr0, ← List.append_assoc]
        rw [bs_app_list, ← HU.out, Tx.stB_list] at h3
        exact h3, HB4.out.trans hb3, HK4.out.trans hk3, Nat.le_trans HS4.out hs3⟩
      clear h3 hb3 hk3 hs3
      go_wp2_with fail
      go_end0
      exact HF.out
end Fd
end Go.Proofs.YtkjgifhklajifaaDoor
namespace Go.Proofs.YtkjgifhklajifaaDoor
open Go.RowKit
namespace Tx
open _root_.Go.Proofs.YtkjgifhklajifaaDoor.Nt (RH RH.cell RH.box RH.lt RH.new RH.ext RH.fre RH.set RH.other)
theorem wp_vr1 {P : Program} {c : Code} {Q : Exit → Act → World → Prop} {a : Act} {w : World} {A : Array Value} {t : TypeId}
    (h : ∀ W, Below w.heap.size w W → RH W w.heap.size A t → c.wp P Q a W) : c.wp P Q a (w.alloc (.cells A t)) := h _ (ext_alloc _ _) (RH.new _ _ _)
theorem wp_vr2 {P : Program} {c : Code} {Q : Exit → Act → World → Prop} {a : Act} {w : World} {A B : Array Value} {t u : TypeId}
    (h : ∀ W, Below w.heap.size w W → RH W w.heap.size A t → RH W (w.heap.size + 1) B u → c.wp P Q a W) : c.wp P Q a ((w.alloc (.cells A t)).alloc (.cells B u)) := by
  refine h _ (by go_grown) ((RH.new w A t).ext (ext_alloc _ _)) ?_
  have := RH.new (w.alloc (.cells A t)) B u
  simpa using this
def isS : Value → Bool
  | .string _ => true
  | _ => false
def NoS (A : Array Value) : Prop := ∀ (j : Nat) (u : Value), A[j]? = some u → isS u = false
/-- a slice that reads as the texts l -/
def SlS (w : World) (a : Option Addr) (l : List ByteArray) (c : Nat) : Prop := Sl w (.slice a l.length c) l.length (strs l)
theorem SlS.ext {w w' : World} {a : Option Addr} {l : List ByteArray} {c : Nat} (h : SlS w a l c) (hb : Below w.heap.size w w') : SlS w' a l c := Sl.ext h hb
theorem SlS.far {w w' : World} {b : Nat} {A : Array Value} {a : Option Addr} {l : List ByteArray} {c : Nat} (h : SlS w a l c) (hA : Box w b A) (hn : NoS A) (hk : ∀ p : Addr, p.block ≠ b → w'.cell? p = w.cell? p) : SlS w' a l c := by
  obtain ⟨a', cap, hv, h1, h2, h0, h3⟩ := h
  refine ⟨a', cap, hv, h1, h2, h0, fun i x hx => ?_⟩
  obtain ⟨b', o, ha, hc⟩ := h3 i x hx
  refine ⟨b', o, ha, ?_⟩
  rw [hk _ (fun e => ?_)]
  · exact hc
  · have e' : b' = b := e
    subst e'
    rw [hA.2] at hc
    have h4 := hn _ _ hc
    simp only [strs, List.getElem?_map] at hx
    cases hl : l[i]? with
    | none => rw [hl] at hx; cases hx
    | some s => rw [hl] at hx; injection hx with hx; subst hx; cases h4
theorem SlS.at {w : World} {a : Option Addr} {l : List ByteArray} {c k : Nat} (h : SlS w a l c) (hk : k < l.length) : ∃ b o, a = some ⟨b, o, none⟩ ∧ w.cell? ⟨b, o + k, none⟩ = some (.string l[k]) := Sl.addr h (strs_get hk)
end Tx
end Go.Proofs.YtkjgifhklajifaaDoor
namespace Go.Proofs.YtkjgifhklajifaaDoor
open Go.RowKit
namespace Fd
open _root_.Go.Proofs.YtkjgifhklajifaaDoor.Nt (RH RH.cell RH.box RH.lt RH.new RH.ext RH.fre RH.set RH.other)
open _root_.Go.Proofs.YtkjgifhklajifaaDoor.Rw (All2 All2.get All2.length wpList_load_agg wp_stored fl_at Kept Fresh own_mono own_base)
abbrev eB : ByteArray := ⟨#[]⟩
/-- what stands while a patch is laid on: the variable that is answered, and the result's block -/
structure MInv (w X : World) (d : Nat) (vi v4 : Value) : Prop where
  rd : RH X d (vAr 5 0 eB vi v4) 25
  rr : ∃ A, RH X (w.heap.size + 2) A 25 ∧ A.size = 5
  bx : Below w.heap.size w X
section
variable {w X X' : World} {d : Nat} {vi v4 : Value}
theorem MInv.ext (h : MInv w X d vi v4) (hb : Below X.heap.size X X') : MInv w X' d vi v4 :=
  ⟨h.rd.ext hb, by obtain ⟨A, a, b⟩ := h.rr; exact ⟨A, a.ext hb, b⟩, ext_trans h.bx hb⟩
theorem MInv.grown (h : MInv w X d vi v4) (hd : w.heap.size + 2 < d) {r : Option Nat} (hg : X.grownBy X' r) (hr : ∀ q, r = some q → d < q) : MInv w X' d vi v4 :=
  ⟨Rw.rh_grown h.rd hg (fun e => by have := hr d e.symm; omega), by obtain ⟨A, a, b⟩ := h.rr; exact ⟨A, Rw.rh_grown a hg (fun e => by have := hr _ e.symm; omega), b⟩, h.bx.grown hg h.bx.size (fun q hq => by have := hr q hq; omega)⟩
theorem MInv.c4 (h : MInv w X d vi v4) : X.cell? ⟨d, 4, none⟩ = some v4 := h.rd.cell 4
end
end Fd
end Go.Proofs.YtkjgifhklajifaaDoor
namespace Go.Proofs.YtkjgifhklajifaaDoor
open Go.RowKit
namespace Fd
open _root_.Go.Proofs.YtkjgifhklajifaaDoor.Nt (RH RH.cell RH.box RH.lt RH.new RH.ext RH.fre RH.set RH.other)
theorem ret_bool {a b : Bool} (h : a = b) : Ending.returned (.bool a) = .returned (.bool b) := by rw [h]
theorem take_byte (s : ByteArray) (k : Nat) (hk : k < s.size) : s.data.toList.take (k + 1) = s.data.toList.take k ++ [s[k]] := by
  have h : k < s.data.toList.length := by simpa using hk
  rw [List.take_succ_eq_append_getElem h]; rfl
theorem toList_nil {s : ByteArray} : s.toList = [] ↔ s.size = 0 := by
  rw [ByteArray.toList_eq]
  have h : s.data.toList.length = s.size := Array.length_toList
  constructor
  · intro e; rw [e] at h; exact h.symm
  · intro e; exact List.eq_nil_of_length_eq_zero (h.trans e)
theorem all_snoc (p : UInt8 → Bool) (s : ByteArray) (k : Nat) (hk : k < s.size) (h : (s.data.toList.take k).all p = true) (hp : p s[k] = true) : (s.data.toList.take (k + 1)).all p = true := by
  rw [take_byte s k hk, List.all_append, h]; simp [hp]
theorem all_not (p : UInt8 → Bool) (s : ByteArray) (k : Nat) (hk : k < s.size) (hp : p s[k] = false) : s.data.toList.all p = false := by
  rw [List.all_eq_false]
  exact ⟨s[k], by rw [show s[k] = s.data.toList[k]'(by simpa using hk) from rfl]; exact List.getElem_mem _, by simp [hp]⟩
theorem all_end (p : UInt8 → Bool) (s : ByteArray) (k : Nat) (hk : ¬ k < s.size) (h : (s.data.toList.take k).all p = true) : s.data.toList.all p = true := by
  rwa [List.take_of_length_le (by simp; omega)] at h
set_option maxRecDepth 100000 in
set_option maxHeartbeats 8000000 in
theorem seen_at (s : ByteArray) (hs : s.size ≤ maxLen) (w : World) : Calls Tryd.prog 50 #[.string s] w fun e w' => e = .returned (.bool (seenB s)) ∧ w = w' := by
  unfold maxLen at hs
  go_enter Tryd.func50, Tryd.ntmps50
  go_wp2
  go_loop [6] (fun i => ∃ k : Nat, k ≤ s.size ∧ i = .int .i64 k ∧ Hid ((s.data.toList.take k).all seenC = true)) (fun i => s.size - (intOf i).toNat)
  case atStart => exact ⟨0, by omega, rfl, rfl⟩
  case round =>
    obtain ⟨k, hk, rfl, HA⟩ := hrel
    by_cases hlt : k < s.size
    · by_cases h1 : 32 ≤ (s[k].toNat : Int)
      · by_cases h2 : (s[k].toNat : Int) ≤ 126
        · have HW : Hid (seenC s[k] = true) := by exact (by unfold seenC; simp; omega : seenC s[k] = true)
          go_wp2
          go_round
          case rel => exact ⟨k + 1, by omega, by go_num, all_snoc _ _ _ hlt HA.out HW.out⟩
          case measure => simp [intOf]; omega
        · have HW : Hid (seenB s = false) := Lib.hid (all_not seenC _ _ hlt (by unfold seenC; simp; omega))
          go_wp2
          go_ret
          exact ⟨ret_bool HW.out.symm, rfl⟩
      · have HW : Hid (seenB s = false) := Lib.hid (all_not seenC _ _ hlt (by unfold seenC; simp; omega))
        go_wp2
        go_ret
        exact ⟨ret_bool HW.out.symm, rfl⟩
    · have HW : Hid (seenB s = true) := Lib.hid (all_end seenC _ _ hlt HA.out)
      go_wp2
      go_ret
      exact ⟨ret_bool HW.out.symm, rfl⟩
set_option maxRecDepth 100000 in
set_option maxHeartbeats 8000000 in
theorem spare_at (k n : Int) (s : ByteArray) (ai af : Option Addr) (ni nf ci cf : Nat) (_h1 : ni ≤ maxLen) (_h2 : nf ≤ maxLen) (_h3 : s.size ≤ maxLen) (w : World) :
    Calls Tryd.prog 49 #[.agg #[.int .i64 k, .int .i64 n, .string s, .slice ai ni ci, .slice af nf cf]] w fun e w' => e = .returned (.bool (spareB k n s ni nf)) ∧ Below w.heap.size w w' := by
  unfold maxLen at _h1 _h2 _h3
  have HSP : Hid (spareB k n s ni nf = ((decide (n ≠ 0) && decide (k ≠ 1) && decide (k ≠ 2)) || (decide (s.toList ≠ []) && decide (k ≠ 3)) || (decide (0 < ni) && decide (k ≠ 4)) || (decide (0 < nf) && decide (k ≠ 5)))) := Lib.hid (by
    have e1 : decide (s.toList ≠ []) = decide (s.size ≠ 0) := by rw [decide_eq_decide]; exact not_congr toList_nil
    rw [e1]; rfl)
  generalize spareB k n s ni nf = B at *
  go_enter Tryd.func49, Tryd.ntmps49
  go_upto_region 1 with (fail)
  refine wp_box1 fun W hszW hbW hA => ?_
  have a0 : W.cell? ⟨w.heap.size, 0, none⟩ = some (.int .i64 k) := hA.2 0
  have a1 : W.cell? ⟨w.heap.size, 1, none⟩ = some (.int .i64 n) := hA.2 1
  have a2 : W.cell? ⟨w.heap.size, 2, none⟩ = some (.string s) := hA.2 2
  have a3 : W.cell? ⟨w.heap.size, 3, none⟩ = some (.slice ai ni ci) := hA.2 3
  have a4 : W.cell? ⟨w.heap.size, 4, none⟩ = some (.slice af nf cf) := hA.2 4
  clear hszW hA
  go_wp2_with fail
  all_goals go_ret
  all_goals refine ⟨ret_bool ?_, hbW⟩
  all_goals rw [HSP.out]
  all_goals clear a0 a1 a2 a3 a4 HSP hbW
  all_goals simp_all
  all_goals first | done | omega | (rw [Bool.eq_iff_iff]; simp; done) | trace_state
end Fd
end Go.Proofs.YtkjgifhklajifaaDoor
