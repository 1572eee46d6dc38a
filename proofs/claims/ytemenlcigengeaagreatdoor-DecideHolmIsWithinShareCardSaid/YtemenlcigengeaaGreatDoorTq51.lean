/- ranked$1 of package decide. Printed by gen_rank.py. Average of both. Printed by gen_sevv.py. -/
import Derived.Test.YtemenlcigengeaaGreatDoorTq50
import Derived.Test.YtemenlcigengeaaGreatDoorTq43
import Derived.Test.YtemenlcigengeaaGreatDoorTq00
import Derived.Test.YtemenlcigengeaaGreatDoorTq41
import Derived.Test.YtemenlcigengeaaGreatDoorTq31
namespace Go.Proofs.YtemenlcigengeaaGreatDoor
open Go.RowKit
namespace Nm
open _root_.Go.Proofs.YtemenlcigengeaaGreatDoor.Nt (boxn_other boxn_cell)
set_option maxRecDepth 100000 in
set_option maxHeartbeats 4000000 in
theorem rcmp_at (l : List RT) (xs : List Y3) (a3 : Option Addr) (c3 ba x y : Nat) (hx : x < l.length) (hy : y < l.length) (W : World) (hB : Box W ba #[.slice a3 xs.length c3]) (hX : XsOf W l xs a3 c3) (hln : ∀ r ∈ l, Ln 100 100 (rQ r.n r.d)) :
    Calls Tryz.prog 83 #[.int .i64 (x : Int), .int .i64 (y : Int), .pointer (some ⟨ba, 0, none⟩)] W fun e w' => e = .returned (.int .i64 (cmpV (vL l) x y)) ∧ Below W.heap.size W w' := by
  obtain ⟨rx, hrx⟩ : ∃ r, l[x]? = some r := ⟨_, List.getElem?_eq_getElem hx⟩
  obtain ⟨ry, hry⟩ : ∃ r, l[y]? = some r := ⟨_, List.getElem?_eq_getElem hy⟩
  have hlx : x < xs.length := by rw [hX.len]; exact hx
  have hly : y < xs.length := by rw [hX.len]; exact hy
  obtain ⟨tx, htx⟩ : ∃ t, xs[x]? = some t := ⟨_, List.getElem?_eq_getElem hlx⟩
  obtain ⟨ty, hty⟩ : ∃ t, xs[y]? = some t := ⟨_, List.getElem?_eq_getElem hly⟩
  have HXX := Lib.hid (hX.ok x tx rx htx hrx)
  have HXY := Lib.hid (hX.ok y ty ry hty hry)
  have HEX := Lib.hid (vL_at hrx)
  have HEY := Lib.hid (vL_at hry)
  have HLX := Lib.hid (hln _ (List.mem_of_getElem? hrx))
  have HLY := Lib.hid (hln _ (List.mem_of_getElem? hry))
  obtain ⟨pb, po, hp9, hcx⟩ := hX.sl.elem (f := y3L) (fun _ => rfl) (by omega : 0 < 3) htx
  obtain ⟨pb2, po2, hp8, hcy⟩ := hX.sl.elem (f := y3L) (fun _ => rfl) (by omega : 0 < 3) hty
  subst hp9
  cases hp8
  have HS := Lib.hid (show wlen (rQ rx.n rx.d).num.natAbs ≤ 6000 ∧ wlen (rQ rx.n rx.d).den ≤ 6000 from HLX.out.small (by omega) (by omega))
  have HT := Lib.hid (show wlen (rQ ry.n ry.d).num.natAbs ≤ 6000 ∧ wlen (rQ ry.n ry.d).den ≤ 6000 from HLY.out.small (by omega) (by omega))
  obtain ⟨xb, xa1, xn1, xc1, xa2, xn2, xc2⟩ := tx
  obtain ⟨yb, ya1, yn1, yc1, ya2, yn2, yc2⟩ := ty
  have hA : ∀ p : Nt.GrownOf W, p.v.cell? ⟨ba, 0, none⟩ = some (.slice (some ⟨pb, po, none⟩) xs.length c3) := fun p => (hB.ext p.b).2 0
  have hx0 : ∀ p : Nt.GrownOf W, p.v.cell? ⟨pb, po + x * 3, none⟩ = some (.bool xb) := fun p => by have h := hcx 0 _ rfl; exact (p.b.cell (World.block_lt_of_cell? _ _ h)).trans h
  have hx1 : ∀ p : Nt.GrownOf W, p.v.cell? ⟨pb, po + x * 3 + 1, none⟩ = some (.slice xa1 xn1 xc1) := fun p => by have h := hcx 1 _ rfl; exact (p.b.cell (World.block_lt_of_cell? _ _ h)).trans h
  have hx2 : ∀ p : Nt.GrownOf W, p.v.cell? ⟨pb, po + x * 3 + 2, none⟩ = some (.slice xa2 xn2 xc2) := fun p => by have h := hcx 2 _ rfl; exact (p.b.cell (World.block_lt_of_cell? _ _ h)).trans h
  have hy0 : ∀ p : Nt.GrownOf W, p.v.cell? ⟨pb, po + y * 3, none⟩ = some (.bool yb) := fun p => by have h := hcy 0 _ rfl; exact (p.b.cell (World.block_lt_of_cell? _ _ h)).trans h
  have hy1 : ∀ p : Nt.GrownOf W, p.v.cell? ⟨pb, po + y * 3 + 1, none⟩ = some (.slice ya1 yn1 yc1) := fun p => by have h := hcy 1 _ rfl; exact (p.b.cell (World.block_lt_of_cell? _ _ h)).trans h
  have hy2 : ∀ p : Nt.GrownOf W, p.v.cell? ⟨pb, po + y * 3 + 2, none⟩ = some (.slice ya2 yn2 yc2) := fun p => by have h := hcy 2 _ rfl; exact (p.b.cell (World.block_lt_of_cell? _ _ h)).trans h
  obtain ⟨z, hz⟩ : ∃ z, cmpV (vL l) x y = z := ⟨_, rfl⟩
  have HZ : Hid (cmpQ (rQ ry.n ry.d) (rQ rx.n rx.d) = z) := Lib.hid (by rw [← hz, ← HEX.out, ← HEY.out]; rfl)
  rw [hz]
  have hc : ∀ p : Nt.GrownOf W, Calls Tryz.prog 55 #[.agg #[.bool yb, .slice ya1 yn1 yc1, .slice ya2 yn2 yc2], .agg #[.bool xb, .slice xa1 xn1 xc1, .slice xa2 xn2 xc2]] p.v fun e w' => e = .returned (.int .i64 z) ∧ Below p.v.heap.size p.v w' := fun p => xcmp_is (rQ ry.n ry.d) (rQ rx.n rx.d) z HZ.out _ _ _ (HXY.out.ext p.b) (HXX.out.ext p.b) (by have := HT.out.1; omega) (by have := HT.out.2; omega) (by have := HS.out.1; omega) (by have := HS.out.2; omega)
  have px : (0 : Int) ≤ (x : Int) := Int.natCast_nonneg _
  have py : (0 : Int) ≤ (y : Int) := Int.natCast_nonneg _
  have qx : (x : Int) < (xs.length : Int) := by omega
  have qy : (y : Int) < (xs.length : Int) := by omega
  have ex : (x : Int).toNat = x := by omega
  have ey : (y : Int).toNat = y := by omega
  clear hrx hry htx hty hX hB hcx hcy hln hz hx hy hlx hly
  go_enter Tryz.func83, Tryz.ntmps83
  go_wp2_with fail
  refine Nt.wp_region_below (by kernel_rfl) (by kernel_rfl) ?_
  repeat (quiet_step (first | (go_at_call 55; refine Nt.Calls.grows (hc _))))
  refine wpQuiet_nil ?_
  intro wq hw'
  have hbq := Nt.GrownOf.of hw'
  clear hw'
  clear hA hc hx0 hy0 hx1 hy1 hx2 hy2
  go_wp2
  go_ret
  exact ⟨rfl, hbq⟩
end Nm
end Go.Proofs.YtemenlcigengeaaGreatDoor
namespace Go.Proofs.YtemenlcigengeaaGreatDoor
open Go.RowKit
namespace Nm
def TPx (q : Rat) : TP := ⟨fun w v => XR w v q, fun _ _ _ hb h => h.ext hb⟩
/-- sums of k evidences with weights, and of k weights -/
def AvOk (k : Nat) (s a : Rat) : Prop := Ln (201 * k) (200 * k) s ∧ Ln (101 * k) (100 * k) a
theorem AvOk.zero : AvOk 0 0 0 := ⟨Ln.nat (n := 0) (a := 0) (by decide), Ln.nat (n := 0) (a := 0) (by decide)⟩
theorem AvOk.step {k : Nat} {s a q p : Rat} (h : AvOk k s a) (hq : Ln 100 100 q) (hp : Ln 100 100 p) : AvOk (k + 1) (s + q * p) (a + p) :=
  ⟨(h.1.add (hq.mul hp)).mono (by omega) (by omega), (h.2.add hp).mono (by omega) (by omega)⟩
theorem AvOk.fits {k : Nat} {s a : Rat} (h : AvOk k s a) (hk : k ≤ 10) : Fits s ∧ Fits a := ⟨h.1.fits (by omega) (by omega), h.2.fits (by omega) (by omega)⟩
theorem AvOk.small {k : Nat} {s a : Rat} (h : AvOk k s a) (hk : k ≤ 10) : (wlen s.num.natAbs ≤ 6000 ∧ wlen s.den ≤ 6000) ∧ wlen a.num.natAbs ≤ 6000 ∧ wlen a.den ≤ 6000 := ⟨Ln.small h.1 (by omega) (by omega), Ln.small h.2 (by omega) (by omega)⟩
theorem turned_q (q z : Rat) (hz : q⁻¹ = z) (v : Value) (w : World) (hx : XR w v q) (h0 : q.num ≠ 0) : Calls Tryz.prog 45 #[v] w (XPost w z) := by
  subst hz; exact turned_at q v w hx h0
end Nm
end Go.Proofs.YtemenlcigengeaaGreatDoor
