/- The stable sort's merge: the whole of it. -/
import Derived.Test.YtbbfdkjamjmbmaaDoorSortD
namespace Go.Proofs.YtbbfdkjamjmbmaaDoor
namespace St
open Go.Shelf Go.RowKit Go.Lib Go.Sort
variable {P : Program} {α : Type} [Inhabited α]
theorem symMerge (k : Nat) (L : Lay P k) (F94 : P.funcs[50]? = some Tryd.f50) (e94 : ∀ args w, (callFunc 50 args).run P w = .ok (.enter 50 args) w) (F92 : P.funcs[45]? = some Tryd.f45) (e92 : ∀ args w, (callFunc 45 args).run P w = .ok (.enter 45 args) w) (FG : P.funcs[42]? = some Tryd.f42) (e85 : ∀ args w, (callFunc 42 args).run P w = .ok (.enter 42 args) w) (enc : α → List Value) (cf : α → α → Int) (hS : SWO (ltOf cf)) (g : Nat) (cb : Array Value) (blk off cap size : Nat) (d0 : Array α) (w0 : World)
    (eg : ∀ args w, (callFunc g args).run P w = .ok (.enter g args) w) (hcmp : CmpLays P g cb enc k cf blk off size w0)
    (R : RowK enc k w0 blk off d0) (hs : d0.size = size) (hsz : size < 4611686018427387904) : ∀ n a m b, b - a < n → a < m → m < b → b ≤ size → Sym P enc k cf g cb blk off cap size w0 a m b
  | 0, _, _, _, h, _, _, _ => absurd h (Nat.not_lt_zero _)
  | n + 1, a, m, b, hn, ham, hmb, hb => by
    have IH := symMerge k L F94 e94 F92 e92 FG e85 enc cf hS g cb blk off cap size d0 w0 eg hcmp R hs hsz n
    intro d w hd S hL hR
    subst hd
    by_cases h1 : m = a + 1
    · subst h1
      have := symL k L FG enc cf hS g cb blk off cap a b d0 d w0 w eg hcmp R hs S hmb hb hsz hR
      exact this
    · by_cases h2 : b = m + 1
      · subst h2
        have := symR k L FG enc cf hS g cb blk off cap a m d0 d w0 w eg hcmp R hs S (by omega) hb hsz hL
        exact this
      · by_cases hm : (a + b) / 2 < m
        · exact symHi k L F94 e94 F92 e92 FG e85 enc cf hS g cb blk off cap a m b d0 d w0 w eg hcmp R hs S (by omega) (by omega) hb hsz hL hR hm (fun a' m' b' h ha hm hb' => IH a' m' b' (by omega) ha hm hb')
        · exact symLo k L F94 e94 F92 e92 FG e85 enc cf hS g cb blk off cap a m b d0 d w0 w eg hcmp R hs S (by omega) (by omega) hb hsz hL hR hm (fun a' m' b' h ha hm hb' => IH a' m' b' (by omega) ha hm hb')
end St
end Go.Proofs.YtbbfdkjamjmbmaaDoor
