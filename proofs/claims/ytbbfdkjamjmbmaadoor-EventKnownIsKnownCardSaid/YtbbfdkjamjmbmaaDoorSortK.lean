/- SortStableFunc at the seat's program: sorted, and a permutation. -/
import Derived.Test.YtbbfdkjamjmbmaaDoorSortJ
namespace Go.Proofs.YtbbfdkjamjmbmaaDoor
namespace St
open Go.Shelf Go.RowKit Go.Lib Go.Sort
variable {α : Type} [Inhabited α]
theorem sortStable_at (enc : α → List Value) (cf : α → α → Int) (hS : SWO (ltOf cf)) (g : Nat) (cb : Array Value) (blk off cap : Nat) (d : Array α) (w : World)
    (eg : ∀ args w, (callFunc g args).run Tryd.prog w = .ok (.enter g args) w) (hcmp : CmpLays Tryd.prog g cb enc 8 cf blk off d.size w)
    (R : RowK enc 8 w blk off d) (hsz : d.size < 1152921504606846976) :
    Calls Tryd.prog 24 #[.slice (some ⟨blk, off, none⟩) d.size cap, .func (.func g) #[] cb] w fun e w' => e = .returned (.tuple #[]) ∧ ∃ d', PermIn 0 d.size d d' ∧ SortedIn (ltOf cf) 0 d.size d' ∧ SWK enc 8 w blk off d' w' :=
  sortStable 8 lay Tryd.func24 Tryd.func35 (fun _ _ => by rfl) (fun _ _ => by rfl) (fun _ _ => by rfl) enc cf g cb blk off cap d.size d w w (SWK.start R.hH) rfl hsz
    (fun a b hab hb => insC enc cf hS g cb blk off cap d w eg hcmp R (by omega) a b hab hb)
    (fun a m b h1 h2 h3 => symMerge 8 lay Tryd.func50 (fun _ _ => by rfl) Tryd.func45 (fun _ _ => by rfl) Tryd.func42 (fun _ _ => by rfl) enc cf hS g cb blk off cap d.size d w eg hcmp R rfl (by omega) (b - a + 1) a m b (Nat.lt_succ_self _) h1 h2 h3)
end St
end Go.Proofs.YtbbfdkjamjmbmaaDoor
