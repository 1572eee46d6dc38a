/- SortStableFunc, over any program that holds the bodies. -/
import Derived.Test.YtbbfdkjamjmbmaaDoorSortG
namespace Go.Proofs.YtbbfdkjamjmbmaaDoor
namespace St
open Go.Shelf Go.RowKit Go.Lib Go.Sort
variable {P : Program} {α : Type} [Inhabited α]
set_option maxHeartbeats 8000000 in
set_option maxRecDepth 1000000 in
theorem sortStable (k : Nat) (L : Lay P k) (FG : P.funcs[24]? = some Tryd.f24) (F68 : P.funcs[35]? = some Tryd.f35) (e68 : ∀ args w, (callFunc 35 args).run P w = .ok (.enter 35 args) w) (e84 : ∀ args w, (callFunc 41 args).run P w = .ok (.enter 41 args) w) (e85 : ∀ args w, (callFunc 42 args).run P w = .ok (.enter 42 args) w) (enc : α → List Value) (cf : α → α → Int) (g : Nat) (cb : Array Value) (blk off cap n : Nat) (d : Array α) (w0 w : World)
    (S : SWK enc k w0 blk off d w) (hn : n = d.size) (hsz : n < 1152921504606846976)
    (HI : ∀ a b, a ≤ b → b ≤ n → InsC P enc k cf g cb blk off cap n w0 a b) (HM : ∀ a m b, a < m → m < b → b ≤ n → Sym P enc k cf g cb blk off cap n w0 a m b) :
    Calls P 24 #[.slice (some ⟨blk, off, none⟩) n cap, .func (.func g) #[] cb] w fun e w' => e = .returned (.tuple #[]) ∧ ∃ d', PermIn 0 n d d' ∧ SortedIn (ltOf cf) 0 n d' ∧ SWK enc k w0 blk off d' w' := by
  have mixed := L.mixed; have t0 := L.t0; have a0 := L.a0; have z0 := L.z0; have v0 := L.v0; have t3 := L.t3; have a3 := L.a3; have z3 := L.z3; have v3 := L.v3; have t4 := L.t4; have a4 := L.a4; have z4 := L.z4; have v4 := L.v4; have tS := L.tS; have aS := L.aS; have zS := L.zS; have vS := L.vS; have tF := L.tF; have aF := L.aF; have zF := L.zF; have vF := L.vF
  have hc := stable k L F68 e84 e85 enc cf g cb blk off cap n d w0 w S hn hsz HI HM
  clear S HI HM hn
  go_enter FG, Tryd.ntmps24
  go_wp2_with (go_at_fn 35; refine hc.mono ?_; rintro e w1 ⟨rfl, d2, hp, hs, S2⟩)
  go_end0
  exact ⟨rfl, d2, hp, hs, S2⟩
end St
end Go.Proofs.YtbbfdkjamjmbmaaDoor
