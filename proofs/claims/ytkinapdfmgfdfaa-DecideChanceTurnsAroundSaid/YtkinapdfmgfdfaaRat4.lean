/- Ratio of package value: an exact number as texts. -/
import Derived.Test.YtkinapdfmgfdfaaRat3
import Derived.Test.YtkinapdfmgfdfaaDgt
namespace Go.Proofs.Ytkinapdfmgfdfaa
open Go.RowKit
namespace Nm
def numL (q : Rat) : List UInt8 := if q.num < 0 then 45 :: decS q.num.natAbs else decS q.num.natAbs
def showN (q : Rat) : ByteArray := strOf (numL q)
def showD (q : Rat) : ByteArray := strOf (decS q.den)
def Fits (q : Rat) : Prop := (decS q.num.natAbs).length ≤ 4000 ∧ (decS q.den).length ≤ 4000
instance (q : Rat) : Decidable (Fits q) := by unfold Fits; exact inferInstance
/-- the texts, and the fault -/
def outN (q : Rat) : ByteArray := if Fits q then showN q else ⟨#[]⟩
def outD (q : Rat) : ByteArray := if Fits q then showD q else ⟨#[]⟩
def outF (q : Rat) : Int := if Fits q then 0 else 2
def OutPost (w : World) (q : Rat) (e : Ending) (w' : World) : Prop := e = .returned (.tuple #[.agg #[.string (outN q), .string (outD q)], .int .i64 (outF q)]) ∧ Below w.heap.size w w'
theorem cat45 (l : List UInt8) : (⟨#[45]⟩ : ByteArray) ++ strOf l = strOf (45 :: l) := by
  apply ByteArray.ext
  rw [ByteArray.data_append]
  simp [strOf]
set_option maxHeartbeats 8000000 in
theorem ratio_at (q : Rat) (v : Value) (w : World) (hx : XR w v q) (l1 : wlen q.num.natAbs ≤ 100000000) (l2 : wlen q.den ≤ 100000000) : Calls Try.prog 21 #[v] w (OutPost w q) := by
  obtain ⟨a1, c1, a2, c2, rfl, h1, h2⟩ := hx.open_
  have H1 := Lib.hid h1
  have H2 := Lib.hid h2
  have HC45 := Lib.hid (cat45 (decS q.num.natAbs))
  have hs1 := strOf_size (decS q.num.natAbs)
  have hs2 := strOf_size (decS q.den)
  have HS1 := Lib.hid hs1
  have HS2 := Lib.hid hs2
  have HNEG : Hid (∀ b, decide (q.num < 0) = b → numL q = if b then 45 :: decS q.num.natAbs else decS q.num.natAbs) := by
    have : ∀ b, decide (q.num < 0) = b → numL q = if b then 45 :: decS q.num.natAbs else decS q.num.natAbs := fun b hb => by
      subst hb; unfold numL; simp
    exact this
  clear h1 h2 hx hs1 hs2
  generalize hbx : decide (q.num < 0) = bx at *
  have HNB := Lib.hid (HNEG.out bx rfl)
  clear HNEG hbx
  have tok1 : True := trivial
  go_enter Try.func21, Try.ntmps21
  go_upto_region 1 with (fail)
  refine wp_box2r fun W hsz hbW hA hC hF => ?_
  go_region_held3 (S2R W (w.heap.size + 1) w.heap.size #[Value.bool bx, Value.slice a1 (digs q.num.natAbs).length c1, Value.slice a2 (digs q.den).length c2] w.heap.size #[Value.bool bx, Value.slice a1 (digs q.num.natAbs).length c1, Value.slice a2 (digs q.den).length c2]) (first | exact S2R.start hA hA | exact S2R.ext (by with_reducible assumption) (by with_reducible assumption) (by omega) hA hA | assumption) (first | (have _t := tok1; go_at_call 33; refine (digits_at q.num.natAbs _ _ (H1.out.ext (S2R.low (by assumption) hbW (by omega))) l1).mono ?_; rintro e w2 ⟨rfl, hb2⟩; have hc2 := Lib.hid (ext_trans (Below.refl W.heap.size W).drew hb2); clear tok1) | (go_at_call 33; refine (digits_at q.den _ _ (H2.out.ext (S2R.low (by assumption) hbW (by omega))) l2).mono ?_; rintro e w3 ⟨rfl, hb3⟩; have hc3 := Lib.hid (ext_trans hc2.out hb3)))
  have hA3 := hA.ext hc3.out
  have hC3 := hC.ext hc3.out
  have hF3 := hF.ext hC hc3.out
  have hbw3 := ext_trans hbW hc3.out
  clear hA hC hF hc2 hc3 hbW hb2 hb3
  obtain ⟨_, oA⟩ := id hA3
  have r0 : w3.cell? ⟨w.heap.size + 1, 0, none⟩ = some (.string ⟨#[]⟩) := hC3.2 0
  have r1 : w3.cell? ⟨w.heap.size + 1, 1, none⟩ = some (.string ⟨#[]⟩) := hC3.2 1
  have g0 := hF3 0
  have g1 := hF3 1
  by_cases hf : Fits q
  · have hf1 : (strOf (decS q.num.natAbs)).size ≤ 4000 := by rw [HS1.out]; exact hf.1
    have hf2 : (strOf (decS q.den)).size ≤ 4000 := by rw [HS2.out]; exact hf.2
    have HF := Lib.hid hf
    clear hf
    cases bx
    · have hq := two_set (.string (strOf (decS q.num.natAbs))) (.string (strOf (decS q.den))) r0 r1
      have hbF : Below w.heap.size w ((w3.setCell ⟨w.heap.size + 1, 0, none⟩ (.string (strOf (decS q.num.natAbs)))).setCell ⟨w.heap.size + 1, 1, none⟩ (.string (strOf (decS q.den)))) := (hbw3.setCell (by simp) _).setCell (by simp) _
      go_wp2
      refine bodyPost_ret (v := .tuple #[.agg #[.string (strOf (decS q.num.natAbs)), .string (strOf (decS q.den))], .int .i64 0]) (by simp [results, Try.results21, go_sem, hq.1, hq.2]) rfl ⟨?_, hbF⟩
      unfold outN outD outF showN showD
      rw [if_pos HF.out, if_pos HF.out, if_pos HF.out, HNB.out]; rfl
    · have hq := two_set (.string (strOf (45 :: decS q.num.natAbs))) (.string (strOf (decS q.den))) r0 r1
      have hbF : Below w.heap.size w ((w3.setCell ⟨w.heap.size + 1, 0, none⟩ (.string (strOf (45 :: decS q.num.natAbs)))).setCell ⟨w.heap.size + 1, 1, none⟩ (.string (strOf (decS q.den)))) := (hbw3.setCell (by simp) _).setCell (by simp) _
      have hcat : (⟨#[45]⟩ : ByteArray) ++ strOf (decS q.num.natAbs) = strOf (45 :: decS q.num.natAbs) := HC45.out
      go_wp2
      refine bodyPost_ret (v := .tuple #[.agg #[.string (strOf (45 :: decS q.num.natAbs)), .string (strOf (decS q.den))], .int .i64 0]) (by simp [results, Try.results21, go_sem, hq.1, hq.2]) rfl ⟨?_, hbF⟩
      unfold outN outD outF showN showD
      rw [if_pos HF.out, if_pos HF.out, if_pos HF.out, HNB.out]; rfl
  · have hq := two_set (.string ⟨#[]⟩) (.string ⟨#[]⟩) r0 r1
    have hbF : Below w.heap.size w ((w3.setCell ⟨w.heap.size + 1, 0, none⟩ (.string ⟨#[]⟩)).setCell ⟨w.heap.size + 1, 1, none⟩ (.string ⟨#[]⟩)) := (hbw3.setCell (by simp) _).setCell (by simp) _
    have HF := Lib.hid hf
    by_cases hf1 : (strOf (decS q.num.natAbs)).size ≤ 4000
    · have hf2 : 4000 < (strOf (decS q.den)).size := by
        rw [HS2.out]; rw [HS1.out] at hf1
        unfold Fits at hf
        omega
      clear hf
      go_wp2
      refine bodyPost_ret (v := .tuple #[.agg #[.string ⟨#[]⟩, .string ⟨#[]⟩], .int .i64 2]) (by simp [results, Try.results21, go_sem, hq.1, hq.2]) rfl ⟨?_, hbF⟩
      unfold outN outD outF
      rw [if_neg HF.out, if_neg HF.out, if_neg HF.out]
    · clear hf
      go_wp2
      refine bodyPost_ret (v := .tuple #[.agg #[.string ⟨#[]⟩, .string ⟨#[]⟩], .int .i64 2]) (by simp [results, Try.results21, go_sem, hq.1, hq.2]) rfl ⟨?_, hbF⟩
      unfold outN outD outF
      rw [if_neg HF.out, if_neg HF.out, if_neg HF.out]
end Nm
end Go.Proofs.Ytkinapdfmgfdfaa
