/- The sort by insertion at the seat's program; the stable sort there. -/
import Derived.Test.YtbbfdkjamjmbmaaDoorSortI
namespace Go.Proofs.YtbbfdkjamjmbmaaDoor
namespace St
open Go.Shelf Go.RowKit Go.Lib Go.Sort
def ren : Ren := ⟨fun | 20 => 41 | n => n, fun | 22 => 22 | 24 => 29 | 25 => 52 | n => n, fun n => n⟩
theorem lays20 : SlLaysF0.n20 Tryd.prog ren := by
  constructor
  case f20 => exact ⟨Tryd.f41.name, by kernel_rfl, Tryd.func41.trans (congrArg some (by kernel_rfl))⟩
  all_goals first | kernel_rfl | (intro w; kernel_rfl)
variable {α : Type} [Inhabited α]
theorem cmpLays_on {P : Program} {g : Nat} {cb : Array Value} {enc : α → List Value} {k : Nat} {cf : α → α → Int} {blk off : Nat} {w0 W : World} {d0 dk : Array α} (R : RowK enc k w0 blk off d0) (h : SWK enc k w0 blk off dk W) (hs : dk.size = d0.size) (hC : CmpLays P g cb enc k cf blk off d0.size w0) : CmpLays P g cb enc k cf blk off d0.size W := fun m os d1 h1 x y => by
  obtain ⟨m', os', hw⟩ := h.on R.hblk m d1 os (by omega)
  rw [hw]
  exact hC m' os' d1 h1 x y
theorem insC (enc : α → List Value) (cf : α → α → Int) (hS : SWO (ltOf cf)) (g : Nat) (cb : Array Value) (blk off cap : Nat) (d0 : Array α) (w0 : World)
    (eg : ∀ args w, (callFunc g args).run Tryd.prog w = .ok (.enter g args) w) (hcmp : CmpLays Tryd.prog g cb enc 8 cf blk off d0.size w0)
    (R : RowK enc 8 w0 blk off d0) (hsz : d0.size < 4611686018427387904) (a b : Nat) (hab : a ≤ b) (hb : b ≤ d0.size) : InsC Tryd.prog enc 8 cf g cb blk off cap d0.size w0 a b := fun d w hd S => by
  have hC := cmpLays_on R S hd hcmp
  have hh := AnyQ.insertionSortCmpFunc (P := Tryd.prog) (ρ := ren) lays20 8 lay.aE lay.zE enc R.hk R.h1 cf g cb blk off cap a b d w eg (by rw [hd]; exact hC) (S.holds R.hblk R.hH hd) (S.lt R.hblk) hab (by omega) (by omega)
  rw [hd] at hh
  refine hh.mono ?_
  rintro e w' ⟨rfl, n, os, rfl⟩
  have h2 := insertionSort_holds (lt := ltOf cf) hS d a b hab (by omega)
  exact ⟨rfl, _, h2.1, h2.2, S.on R.hblk n _ os h2.1.1⟩
end St
end Go.Proofs.YtbbfdkjamjmbmaaDoor
