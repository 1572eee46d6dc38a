/- Words for slices that are read and small facts on worlds, for all walks of this seat: no program stands in it. capitals of package decide. evidence and decides of package decide. decides of package decide, and the closure that decided hands to walk. The closure that decided hands to walk; walk with it; decided. The closure that Course hands to walk; walk with it. walk with the closure of Course; Decided and Course of package decide. Course of package decide. Plain: how long the numbers of a calculation can be. No program stands in it. Plain: what Holm decides, the share does, too, as rows of bools. Printed by gen_lawholm.py. slices.Grow and slices.Concat at []api.Ratio. Plain: what more trials do to pairs, decisions and evidence. -/
import Derived.Test.YtemenlcigengeaaGreatDoorTq00
import Derived.WalkKit
import Derived.WalkSpells
import Derived.WalkLawsBesides
import Derived.Handy
import Derived.Lib.Hide
import Derived.Lib.ConvBytes
import Derived.Deep.DeepAppendRoom
import Derived.Laws.AppendOwnNone
import Derived.Test.YtemenlcigengeaaGreatDoorTq16
import Derived.Test.YtemenlcigengeaaGreatDoorProg
import Derived.Test.YtemenlcigengeaaGreatDoorTq03
import Derived.Test.YtemenlcigengeaaGreatDoorTq05
import Derived.Test.YtemenlcigengeaaGreatDoorTq41
import Derived.Test.YtemenlcigengeaaGreatDoorTq02
import Derived.Deep.Cut
import Derived.Test.YtemenlcigengeaaGreatDoorTq06
import Derived.Test.YtemenlcigengeaaGreatDoorTq07
import Derived.Test.YtemenlcigengeaaGreatDoorTq08
import Derived.Test.YtemenlcigengeaaGreatDoorTq17
import Derived.Test.YtemenlcigengeaaGreatDoorTq18
import Derived.Test.YtemenlcigengeaaGreatDoorTq19
import Derived.Test.YtemenlcigengeaaGreatDoorTq20
import Derived.Test.YtemenlcigengeaaGreatDoorTq21
import Derived.Test.YtemenlcigengeaaGreatDoorTq35
import Derived.Test.YtemenlcigengeaaGreatDoorTq23
import Derived.Test.YtemenlcigengeaaGreatDoorTq24
import Derived.Test.YtemenlcigengeaaGreatDoorTq25
import Derived.Test.YtemenlcigengeaaGreatDoorTq26
import Derived.Test.YtemenlcigengeaaGreatDoorTq27
import Derived.Test.YtemenlcigengeaaGreatDoorTq28
import Derived.Test.YtemenlcigengeaaGreatDoorTq29
import Derived.Test.YtemenlcigengeaaGreatDoorShelf
import Derived.Test.YtemenlcigengeaaGreatDoorTq30
import Derived.Test.YtemenlcigengeaaGreatDoorTq31
import Derived.Test.YtemenlcigengeaaGreatDoorTq32
import Derived.Test.YtemenlcigengeaaGreatDoorTq33
import Derived.Test.YtemenlcigengeaaGreatDoorTq34
import Derived.Test.YtemenlcigengeaaGreatDoorTq36
import Derived.Test.YtemenlcigengeaaGreatDoorTq42
import Derived.Test.YtemenlcigengeaaGreatDoorTq43
import Derived.Test.YtemenlcigengeaaGreatDoorTq50
import Derived.Test.YtemenlcigengeaaGreatDoorTq51
import Derived.Test.YtemenlcigengeaaGreatDoorTq53
import Derived.Test.YtemenlcigengeaaGreatDoorTq54
namespace Go.Proofs.YtemenlcigengeaaGreatDoor
open Go.RowKit

/-- append onto a row of the call's own with room for it: no bound on bytes. -/
theorem wpList_append_spare_sl {P : Program} {w : World} {ops : Array Oper} {rest : List Oper} {o : Oper} {a : Act} {Q : Exit → Act → World → Prop} (hgd : o.guard = none) (s x : Operand) (t : TypeId)
    (ho : o.op = .call { callee := .builtin .append, args := #[s, x], argTypes := #[t, t] })
    (base : Nat) (e : TypeId) {z : Value} {size bytes : Nat} (ht : P.underlying t = some (.slice e)) (hinfo : (P.info? e).map (fun i => (i.zero, i.size, i.bytes)) = some (some z, size, bytes))
    {g n cap : Nat} {xs : List Value} (hs : a.eval s = .slice (some ⟨g, 0, none⟩) n cap) (hown : w.ownsRow base e size (.slice (some ⟨g, 0, none⟩) n cap) n xs)
    {xv : Value} {m : Nat} {news : List Value} (hx : a.eval x = xv) (hsl : Sl w xv m news) (hl : news.length = m * size) (h1 : ∀ u ∈ news, u.oneCell' = true)
    (hroom : n + m ≤ cap)
    (h : ∀ w', w'.ownsRow base e size (.slice (some ⟨g, 0, none⟩) (n + m) cap) (n + m) (xs ++ news) → w.grownBy w' (some g) → wpList P ops Q rest (a.put o.dst (.slice (some ⟨g, 0, none⟩) (n + m) cap)) w') : wpList P ops Q (o :: rest) a w := by
  obtain ⟨i, hi, hz0, hz1, hz2⟩ := info_parts hinfo
  rcases hsl.src with ⟨rfl, rfl, rfl⟩ | ⟨ad, c, rfl, hnews⟩
  · refine wpList_append_own_none hgd s x t ho base e i size ht hi _ n xs hs hown hx ?_
    have := h w (by simpa using hown) (World.grownBy.refl w _)
    simpa using this
  · exact wpList_append_own_spare w hgd s x t ho base e i size ht hi hz1 g n cap xs hs hown ad m c news hx hl hnews h1 hroom h

end Go.Proofs.YtemenlcigengeaaGreatDoor
namespace Go.Proofs.YtemenlcigengeaaGreatDoor
open Go.RowKit
namespace Nm
/-- the sum of the first capitals -/
def capS (bets up down : Nat) : Nat → Nat
  | 0 => 0
  | k + 1 => capS bets up down k + (bets + 1 + (k + 1)) ^ up * (bets + 1 - (k + 1)) ^ down
def capN (bets up down : Nat) : Nat := capS bets up down bets
end Nm
end Go.Proofs.YtemenlcigengeaaGreatDoor
namespace Go.Proofs.YtemenlcigengeaaGreatDoor
open Go.RowKit
namespace Nm
/-- what bets have made of 1 -/
def evSum (d : Int) (bets up down : Nat) : Nat := (if d = 2 then 0 else capN bets up down) + (if d = 1 then 0 else capN bets down up)
def evParts (d : Int) : Nat := (if d = 2 then 0 else 1) + (if d = 1 then 0 else 1)
def evDen (d : Int) (bets up down : Nat) : Nat := (bets + 1) ^ (up + down) * (bets * evParts d)
def evQ (d : Int) (bets up down : Nat) : Rat := mkRat (evSum d bets up down : Int) (evDen d bets up down)
end Nm
end Go.Proofs.YtemenlcigengeaaGreatDoor
namespace Go.Proofs.YtemenlcigengeaaGreatDoor
open Go.RowKit
namespace Nm
def decB (d : Int) (bets : Nat) (q : Rat) (up down : Nat) : Bool := decide (0 ≤ cmpQ (evQ d bets up down) q)
end Nm
end Go.Proofs.YtemenlcigengeaaGreatDoor
namespace Go.Proofs.YtemenlcigengeaaGreatDoor
open Go.RowKit
namespace Nm
/-- the first pair behind which a test is decided, or 0 -/
def decAt (dec : Nat → Nat → Bool) : Nat → Nat → Nat → List Int → Nat
  | _, _, _, [] => 0
  | u, v, k, p :: r => if dec (if p = 1 then u + 1 else u) (if p = -1 then v + 1 else v) = true then k + 1 else decAt dec (if p = 1 then u + 1 else u) (if p = -1 then v + 1 else v) (k + 1) r
end Nm
end Go.Proofs.YtemenlcigengeaaGreatDoor
namespace Go.Proofs.YtemenlcigengeaaGreatDoor
open Go.RowKit
namespace Nm
def ratL (q : Rat) : List Value := [.string (outN q), .string (outD q)]
/-- the evidence behind each pair -/
def evTrail (ev : Nat → Nat → Rat) : Nat → Nat → List Int → List Rat
  | _, _, [] => []
  | u, v, p :: r => ev (if p = 1 then u + 1 else u) (if p = -1 then v + 1 else v) :: evTrail ev (if p = 1 then u + 1 else u) (if p = -1 then v + 1 else v) r
end Nm
end Go.Proofs.YtemenlcigengeaaGreatDoor
namespace Go.Proofs.YtemenlcigengeaaGreatDoor
open Go.RowKit
namespace Nm
/-- what Decided and Course find wrong -/
def decF (d k : Int) (n m : ByteArray) (l : List Tri) : Int := if testF d k n m = 0 then pairF l else testF d k n m
def decV (d k : Int) (n m : ByteArray) (l : List Tri) : Nat := if decF d k n m l = 0 then decAt (decB d k.toNat (rQ n m)⁻¹) 0 0 0 (pairZ l) else 0
def crsV (d k : Int) (n m : ByteArray) (l : List Tri) : List Rat := if decF d k n m l = 0 then evTrail (evQ d k.toNat) 0 0 (pairZ l) else []
end Nm
end Go.Proofs.YtemenlcigengeaaGreatDoor
namespace Go.Proofs.YtemenlcigengeaaGreatDoor
open Go.RowKit
namespace Nm
theorem evTrail_length (ev : Nat → Nat → Rat) : ∀ (l : List Int) (u v : Nat), (evTrail ev u v l).length = l.length
  | [], _, _ => rfl
  | _ :: r, _, _ => by simp only [evTrail, List.length_cons]; rw [evTrail_length ev r]
end Nm
end Go.Proofs.YtemenlcigengeaaGreatDoor
namespace Go.Proofs.YtemenlcigengeaaGreatDoor
namespace Nm
theorem FZ.neg {D M : Nat} {q : Rat} (h : FZ D M q) : FZ D M (-q) := by
  obtain ⟨hD, m, hm, rfl⟩ := h
  exact ⟨hD, -m, by omega, by rw [Rat.neg_mkRat]⟩
theorem FZ.sub {D M N : Nat} {p q : Rat} (h : FZ D M p) (k : FZ D N q) : FZ D (M + N) (p - q) := by
  rw [Rat.sub_eq_add_neg]; exact h.add k.neg
theorem Bd.neg {A B : Nat} {q : Rat} (h : Bd A B q) : Bd A B (-q) := (Bd.self q).neg.bd.mono h.1 h.2
theorem Bd.sub {A B A' B' : Nat} {p q : Rat} (h : Bd A B p) (k : Bd A' B' q) : Bd (A * B' + A' * B) (B * B') (p - q) := by
  rw [Rat.sub_eq_add_neg]; exact h.add k.neg
theorem Ln.neg {a b : Nat} {q : Rat} (h : Ln a b q) : Ln a b (-q) := Bd.neg h
theorem Ln.sub {a b a' b' : Nat} {p q : Rat} (h : Ln a b p) (k : Ln a' b' q) : Ln (max (a + b') (a' + b) + 1) (b + b') (p - q) := by
  rw [Rat.sub_eq_add_neg]; exact h.add k.neg
end Nm
end Go.Proofs.YtemenlcigengeaaGreatDoor
namespace Go.Proofs.YtemenlcigengeaaGreatDoor
open Go.RowKit
namespace Nm
theorem bcs_at {L : List Bool} {i : Nat} (h : i < L.length) : (bcs L)[i]? = some (.bool (L.getD i false)) := by
  rw [bcs_get h]; simp [h]
theorem holmB_at {v : Nat → Rat} {need : Rat} {n i : Nat} (h : i < n) : (holmB v need n).getD i false = true ↔ HolmD v (hTh n need) n i := by
  unfold holmB; simp [h, pB_iff]
theorem shareB_at {v : Nat → Rat} {need : Rat} {n i : Nat} (h : i < n) : (shareB v need n).getD i false = true ↔ ShareD v (sTh n need) n i := by
  unfold shareB; simp [h, pB_iff]
/-- all that the law asks of the rows -/
structure Within (n : Nat) (v : Nat → Rat) (x y : List Bool) : Prop where
  sub : ∀ i, i < n → x.getD i false = true → y.getD i false = true
  mx : ∀ i k, i < n → k < n → v i < v k → x.getD i false = true → x.getD k false = true
  my : ∀ i k, i < n → k < n → v i < v k → y.getD i false = true → y.getD k false = true
structure More (n : Nat) (x y p q : List Bool) : Prop where
  px : ∀ i, i < n → p.getD i false = true → x.getD i false = true
  qy : ∀ i, i < n → q.getD i false = true → y.getD i false = true
  pn : p.getD n false = false
  qn : q.getD n false = false
theorem within_is {v : Nat → Rat} {need : Rat} {n : Nat} (hn : 0 < need) (h0 : ∀ k, k < n → 0 ≤ v k) : Within n v (holmB v need n) (shareB v need n) where
  sub _i hi h := (shareB_at hi).2 (holm_share hn h0 hi ((holmB_at hi).1 h))
  mx _i _k hi hk hv h := (holmB_at hk).2 (holm_mono ((holmB_at hi).1 h) (Rat.le_of_lt hv))
  my _i _k hi hk hv h := (shareB_at hk).2 (share_mono ((shareB_at hi).1 h) (Rat.le_of_lt hv))
theorem more_is {v u : Nat → Rat} {need : Rat} {n : Nat} (hn : 0 < need) (h0 : ∀ k, k < n → 0 ≤ v k) (h : With0 v u n) : More n (holmB v need n) (shareB v need n) (holmB u need (n + 1)) (shareB u need (n + 1)) where
  px i hi hd := (holmB_at hi).2 (h.holm hn h0 hi ((holmB_at (Nat.lt_succ_of_lt hi)).1 hd))
  qy i hi hd := (shareB_at hi).2 (h.share hn h0 hi ((shareB_at (Nat.lt_succ_of_lt hi)).1 hd))
  pn := by
    rw [← Bool.not_eq_true, holmB_at (Nat.lt_succ_self n)]
    exact h.holm_last hn
  qn := by
    rw [← Bool.not_eq_true, shareB_at (Nat.lt_succ_self n)]
    exact h.share_last hn h0
/-- the evidence 0 -/
def zR : RT := ⟨showN 0, showD 0⟩
theorem dec0 : decS 0 = [48] := by rw [decS_small (by decide)]; rfl
theorem dec1 : decS 1 = [49] := by rw [decS_small (by decide)]; rfl
theorem showN0 : showN (0 : Rat) = ⟨#[48]⟩ := by
  unfold showN numL; rw [show (0 : Rat).num = 0 from rfl]; rw [show (0 : Int).natAbs = 0 from rfl, dec0]; rfl
theorem showD0 : showD (0 : Rat) = ⟨#[49]⟩ := by
  unfold showD; rw [show (0 : Rat).den = 1 from rfl, dec1]; rfl
theorem part_zero : partF zR.n zR.d = 0 := by
  show partF (showN 0) (showD 0) = 0
  have h := back Nt.fits0
  unfold partF
  rw [if_neg (fun h' => h' h.1), h.2, if_neg (by decide), if_neg]
  rw [showN0, showD0]; decide
theorem zR_ok : rtOk zR := by
  unfold rtOk zR
  simp only [showN0, showD0]
  exact ⟨by show 1 ≤ maxLen; unfold maxLen; omega, by show 1 ≤ maxLen; unfold maxLen; omega⟩
theorem vL_more {l : List RT} {k : Nat} (hk : k < l.length) : vL (l ++ [zR]) k = vL l k := by unfold vL; rw [List.getElem?_append_left hk]
theorem vL_end (l : List RT) : vL (l ++ [zR]) l.length = 0 := by
  rw [vL_at (r := zR) (by simp)]; exact (back Nt.fits0).2
theorem with0 (l : List RT) : With0 (vL l) (vL (l ++ [zR])) l.length := ⟨fun _ hk => vL_more hk, vL_end l⟩
theorem aF_more : ∀ {l : List RT}, aF l = 0 → aF (l ++ [zR]) = 0
  | [], _ => by
    show (if partF zR.n zR.d ≠ 0 then partF zR.n zR.d else aF []) = 0
    rw [if_neg (fun h => h part_zero)]; rfl
  | x :: t, h => by
    have hx := aF_all h x (by simp)
    have e : aF (x :: t) = aF t := if_neg (fun h' => h' hx)
    rw [e] at h
    show (if partF x.n x.d ≠ 0 then partF x.n x.d else aF (t ++ [zR])) = 0
    rw [if_neg (fun h' => h' hx)]; exact aF_more h
theorem rk_more {l : List RT} {n d : ByteArray} (h : rkF l n d = 0) (hm : rkF (l ++ [zR]) n d ≠ 0) : l.length = 10 := by
  obtain ⟨⟨h1, h2⟩, h3, h4⟩ := rk_parts h
  apply Classical.byContradiction
  intro hne
  apply hm
  unfold rkF
  have e : allF (l ++ [zR]) = 0 := by
    unfold allF
    have hl : mF (l ++ [zR]).length = 0 := by
      rw [List.length_append]; unfold mF
      rw [if_neg (by simp), if_neg (by simp; omega)]
    rw [if_neg (fun h' => h' hl)]; exact aF_more h3
  rw [if_neg (fun h' => h' e)]; exact h4
end Nm
end Go.Proofs.YtemenlcigengeaaGreatDoor
namespace Go.Proofs.YtemenlcigengeaaGreatDoor
open Go.RowKit
namespace CCCatR
open _root_.Go.Proofs.YtemenlcigengeaaGreatDoor.Nm (RT rtL)
theorem e_bytes : Tryz.t23.bytes = 32 := by kernel_rfl
theorem e_info : (Tryz.prog.info? 23).map (fun i => (i.zero, i.size, i.bytes)) = some (some (.agg #[.string ⟨#[]⟩, .string ⟨#[]⟩]), 2, 32) := by kernel_rfl
def cells (l : List RT) : List Value := l.flatMap rtL
theorem cells_append (l m : List RT) : cells (l ++ m) = cells l ++ cells m := List.flatMap_append
theorem cells_length (l : List RT) : (cells l).length = l.length * 2 := flat_length (f := rtL) (sz := 2) (fun _ => rfl) l
theorem cells_one (l : List RT) : ∀ u ∈ cells l, u.oneCell' = true := by
  intro u hu
  simp only [cells, List.mem_flatMap] at hu
  obtain ⟨x, _, hx⟩ := hu
  simp only [rtL, List.mem_cons, List.not_mem_nil, or_false] at hx
  rcases hx with rfl | rfl <;> rfl
/-- What Grow(nil, n) leaves: a new array with room for n elements. -/
def GrowPost (w : World) (n : Nat) (e : Ending) (w' : World) : Prop :=
  ∃ cap, e = .returned (.slice (some ⟨w.heap.size, 0, none⟩) 0 cap) ∧ n ≤ cap ∧ w'.ownsRow w.heap.size 23 2 (.slice (some ⟨w.heap.size, 0, none⟩) 0 cap) 0 [] ∧ Below w.heap.size w w'
theorem nextcap (n : Nat) (h : 0 < n) : Builtin.nextslicecap n 0 = n := by unfold Builtin.nextslicecap; rw [if_pos (by omega)]
theorem grow_post (w : World) (n cap : Nat) (hn : n ≤ cap) (hm : cap ≤ maxLen) :
    GrowPost w n (.returned (.slice (some ⟨w.heap.size, 0, none⟩) 0 cap)) (w.alloc (Obj.cells (Builtin.zeroCells #[.string ⟨#[]⟩, .string ⟨#[]⟩] n ++ Builtin.zeroCells #[.string ⟨#[]⟩, .string ⟨#[]⟩] (cap - n)) 23)).drew := by
  refine ⟨cap, rfl, hn, ?_, by go_grown⟩
  exact World.ownsRow.drew (World.ownsRow_made w _ cap (Nat.le_refl _) hm (by simp [size_zeroCells]; omega))
set_option maxHeartbeats 1000000 in
set_option maxRecDepth 100000 in
theorem grow_some (n : Nat) (hn : 0 < n) (hn' : n ≤ 8796093022208) (w : World) :
    Calls Tryz.prog 59 #[.slice none 0 0, .int .i64 n] w (GrowPost w n) := by
  have hb := e_bytes
  have hx := nextcap n hn
  have hc1 := grownCap_ge w n 0 23
  have hc2 := grownCap_le_maxLen w n 0 23 (by unfold maxLen; omega)
  unfold grownCap at hc1 hc2
  go_enter Tryz.func59, Tryz.ntmps59
  go_wp2
  all_goals first | (exfalso; simp_all; omega) | skip
  go_ret
  exact grow_post w n _ hc1 hc2
theorem grow_none (w : World) :
    Calls Tryz.prog 59 #[.slice none 0 0, .int .i64 0] w fun e w' => e = .returned (.slice none 0 0) ∧ w = w' := by
  go_enter Tryz.func59, Tryz.ntmps59
  go_wp2
  go_ret
  exact ⟨rfl, rfl⟩
def tot (L : Nat → Nat) : Nat → Nat
  | 0 => 0
  | k + 1 => tot L k + L k
def cat {α : Type} (ls : Nat → List α) : Nat → List α
  | 0 => []
  | k + 1 => cat ls k ++ ls k
theorem tot_mono (L : Nat → Nat) {j k : Nat} (h : j ≤ k) : tot L j ≤ tot L k := by
  induction h with
  | refl => exact Nat.le_refl _
  | step _ ih => exact Nat.le_trans ih (Nat.le_add_right _ _)
theorem cat_length {α : Type} (ls : Nat → List α) (L : Nat → Nat) (n : Nat) (h : ∀ i, i < n → (ls i).length = L i) : (cat ls n).length = tot L n := by
  induction n with
  | zero => rfl
  | succ k ih => simp only [cat, tot, List.length_append]; rw [ih (fun i hi => h i (by omega)), h k (by omega)]
def CatPost (w : World) (l : List RT) (e : Ending) (w' : World) : Prop :=
  ∃ a cap, e = .returned (.slice a l.length cap) ∧ Sl w' (.slice a l.length cap) l.length (cells l) ∧ w'.ownsRow w.heap.size 23 2 (.slice a l.length cap) l.length (cells l) ∧ Below w.heap.size w w'
set_option maxHeartbeats 1000000 in
set_option maxRecDepth 100000 in
theorem cat_any (b o n cap : Nat) (A : Nat → Option Addr) (L C : Nat → Nat) (ls : Nat → List RT) (w : World) (hn : n ≤ 9223372036854775807)
    (hcell : ∀ i, i < n → w.cell? ⟨b, o + i, none⟩ = some (.slice (A i) (L i) (C i)))
    (hsl : ∀ i, i < n → Sl w (.slice (A i) (L i) (C i)) (L i) (cells (ls i))) (hlen : ∀ i, i < n → (ls i).length = L i)
    (htot : tot L n ≤ 8796093022208) :
    Calls Tryz.prog 25 #[.slice (some ⟨b, o, none⟩) n cap] w (CatPost w (cat ls n)) := by
  have HC := Lib.hid hcell
  have HS := Lib.hid hsl
  have HL := Lib.hid hlen
  have HB := Lib.hid e_info
  clear hcell hsl hlen
  go_enter Tryz.func25, Tryz.ntmps25
  go_wp2
  go_loop [3, 5, 11] (fun t _ i => ∃ k : Nat, k ≤ n ∧ i = .int .i64 k ∧ t = .int .i64 (tot L k)) (fun _ _ i => n - (intOf i).toNat)
  case atStart => exact ⟨0, by omega, rfl, rfl⟩
  case round =>
    obtain ⟨k, hk, rfl, rfl⟩ := hrel
    have hm := tot_mono L hk
    by_cases hlt : k < n
    · have hc := HC.out k hlt
      have hm2 := tot_mono L (show k + 1 ≤ n by omega)
      simp only [tot] at hm2
      go_wp2
      go_round
      case rel => exact ⟨k + 1, by omega, by go_num, by simp only [tot]; go_num⟩
      case measure => simp [intOf]; omega
    · have hkn : k = n := by omega
      subst hkn
      by_cases h0 : 0 < tot L k
      · go_wp2_with fail
        refine (grow_some _ h0 htot _).mono ?_
        rintro e w1 ⟨cap1, rfl, hcap, hown, hb1⟩
        go_wp2
        go_loopw [6, 8, 27] (fun v _ i wr => ∃ j : Nat, j ≤ k ∧ i = .int .i64 j ∧ v = .slice (some ⟨w.heap.size, 0, none⟩) (tot L j) cap1 ∧ wr.ownsRow w.heap.size 23 2 (.slice (some ⟨w.heap.size, 0, none⟩) (tot L j) cap1) (tot L j) (cells (cat ls j)) ∧ Below w.heap.size w wr) (fun _ _ i _ => k - (intOf i).toNat)
        case atStart => exact ⟨0, by omega, rfl, rfl, hown, hb1⟩
        case round =>
          obtain ⟨j, hj, rfl, rfl, hownj, hbj⟩ := hrel
          by_cases hjk : j < k
          · have hc := cell_later hbj (HC.out j hjk)
            have hs := (HS.out j hjk).ext hbj
            have hlj := HL.out j hjk
            have hm2 := tot_mono L (show j + 1 ≤ k by omega)
            simp only [tot] at hm2
            have HLJ := Lib.hid hlj
            clear hlj
            go_wp2_with (at_builtin; refine wpList_append_spare_sl rfl _ _ 40 rfl w.heap.size 23 Tryz.underlying40 HB.out rfl hownj rfl hs ?c1 (cells_one _) ?c2 ?_; rotate_left 2; intro w2 hown2 hg2)
            case c1 => rw [cells_length, HLJ.out]
            case c2 => omega
            rw [← cells_append] at hown2
            have hb2 := hbj.grown hg2 hbj.size (fun k e => by cases e; exact Nat.le_refl _)
            go_wp2
            go_roundw
            case rel => exact ⟨j + 1, by omega, by go_num, rfl, hown2, hb2⟩
            case measure => simp [intOf]; omega
          · have hjk' : j = k := by omega
            subst hjk'
            have hcl := cat_length ls L j HL.out
            have HCL := Lib.hid hcl
            clear hcl
            go_wp2
            go_ret
            exact ⟨_, _, by rw [HCL.out]; rfl, by rw [HCL.out]; exact Sl.ofOwn hownj, by rw [HCL.out]; exact hownj, hbj⟩
      · have h00 : tot L k = 0 := by omega
        have HT := Lib.hid h00
        have ht0 : ((tot L k : Nat) : Int) = 0 := by omega
        clear h00
        rw [ht0]
        go_wp2_with fail
        refine (grow_none _).mono ?_
        rintro e w1 ⟨rfl, rfl⟩
        go_wp2
        go_loopw [6, 8, 27] (fun v _ i wr => ∃ j : Nat, j ≤ k ∧ i = .int .i64 j ∧ v = .slice none 0 0 ∧ Below w.heap.size w wr) (fun _ _ i _ => k - (intOf i).toNat)
        case atStart => exact ⟨0, by omega, rfl, rfl, Below.refl _ _⟩
        case round =>
          obtain ⟨j, hj, rfl, rfl, hbj⟩ := hrel
          by_cases hjk : j < k
          · have hc := cell_later hbj (HC.out j hjk)
            have hs := (HS.out j hjk).ext hbj
            have hlj := HL.out j hjk
            have hm2 := tot_mono L (show j + 1 ≤ k by omega)
            simp only [tot] at hm2
            have hL0 : L j = 0 := by have := HT.out; omega
            rw [hL0] at hc hs hlj
            have hl0 : ls j = [] := List.length_eq_zero_iff.1 hlj
            rw [hl0] at hs
            clear hlj hl0 hm2 hL0 ht0
            go_wp2_with (at_builtin; refine wpList_append_sl rfl _ _ 40 rfl w.heap.size 23 Tryz.underlying40 HB.out rfl (by decide) rfl (World.ownsRow_nil _ _ _ _) rfl hs rfl (by simp [cells]) (by decide) (by decide) hbj.size ?_; intro v2 w2 hown2 hg2 hv2)
            obtain rfl := hv2.2 ⟨rfl, rfl⟩
            have hb2 := hbj.grown hg2 hbj.size (fun k e => by cases e)
            go_wp2
            go_roundw
            case rel => exact ⟨j + 1, by omega, by go_num, rfl, hb2⟩
            case measure => simp [intOf]; omega
          · have hjk' : j = k := by omega
            subst hjk'
            have hcl := cat_length ls L j HL.out
            have hcn : cat ls j = [] := List.length_eq_zero_iff.1 (by rw [hcl]; exact HT.out)
            have HCN := Lib.hid hcn
            clear hcl hcn
            go_wp2
            go_ret
            exact ⟨none, 0, by rw [HCN.out]; rfl, by rw [HCN.out]; exact Sl.nil _, by rw [HCN.out]; exact World.ownsRow_nil _ _ _ _, hbj⟩
def pick2 {α : Type} (x y : α) : Nat → α
  | 0 => x
  | _ => y
theorem forall2 {p : Nat → Prop} (h0 : p 0) (h1 : p 1) : ∀ i, i < 2 → p i := by
  intro i hi
  obtain rfl | rfl : i = 0 ∨ i = 1 := by omega
  · exact h0
  · exact h1
theorem cat_two (b cap : Nat) (a0 a1 : Option Addr) (n0 n1 c0 c1 : Nat) (l0 l1 : List RT) (w : World)
    (h0 : w.cell? ⟨b, 0, none⟩ = some (.slice a0 n0 c0)) (h1 : w.cell? ⟨b, 1, none⟩ = some (.slice a1 n1 c1))
    (s0 : Sl w (.slice a0 n0 c0) n0 (cells l0)) (s1 : Sl w (.slice a1 n1 c1) n1 (cells l1))
    (e0 : l0.length = n0) (e1 : l1.length = n1) (ht : n0 + n1 ≤ 8796093022208) :
    Calls Tryz.prog 25 #[.slice (some ⟨b, 0, none⟩) 2 cap] w (CatPost w (l0 ++ l1)) := by
  have := cat_any b 0 2 cap (pick2 a0 a1) (pick2 n0 n1) (pick2 c0 c1) (pick2 l0 l1) w (by omega)
    (forall2 (p := fun i => w.cell? ⟨b, 0 + i, none⟩ = some (.slice (pick2 a0 a1 i) (pick2 n0 n1 i) (pick2 c0 c1 i))) h0 h1) (forall2 (p := fun i => Sl w (.slice (pick2 a0 a1 i) (pick2 n0 n1 i) (pick2 c0 c1 i)) (pick2 n0 n1 i) (cells (pick2 l0 l1 i))) s0 s1) (forall2 (p := fun i => (pick2 l0 l1 i).length = pick2 n0 n1 i) e0 e1) (by simp only [tot, pick2]; omega)
  simpa [cat, pick2] using this
def CatFrom (w : World) (l : List RT) (e : Ending) (w' : World) : Prop :=
  ∃ a cap, e = .returned (.slice a l.length cap) ∧ Sl w' (.slice a l.length cap) l.length (cells l) ∧ w'.ownsRow w.heap.size 23 2 (.slice a l.length cap) l.length (cells l) ∧ Below w.heap.size w w'
theorem own_up {w : World} {base base' n : Nat} {v : Value} {xs : List Value} (h : w.ownsRow base' 23 2 v n xs) (hb : base ≤ base') : w.ownsRow base 23 2 v n xs := by
  obtain ⟨h1, h2 | ⟨g, cap, cur, h3, h4, h5⟩⟩ := h
  · exact ⟨h1, .inl h2⟩
  · exact ⟨h1, .inr ⟨g, cap, cur, h3, Nat.le_trans hb h4, h5⟩⟩
theorem cat_new' (w : World) (a0 a1 : Option Addr) (c0 c1 : Nat) (l0 l1 : List RT) (s0 : Sl w (.slice a0 l0.length c0) l0.length (cells l0)) (s1 : Sl w (.slice a1 l1.length c1) l1.length (cells l1)) (ht : l0.length + l1.length ≤ 8796093022208) :
    Calls Tryz.prog 25 #[.slice (some ⟨w.heap.size, 0, none⟩) 2 2] (w.alloc (.cells #[.slice a0 l0.length c0, .slice a1 l1.length c1] 40)) (CatFrom w (l0 ++ l1)) := by
  have hb : Below w.heap.size w (w.alloc (.cells #[.slice a0 l0.length c0, .slice a1 l1.length c1] 40)) := by go_grown
  refine (cat_two _ _ a0 a1 _ _ c0 c1 l0 l1 _ (by simp) (by simp) (s0.ext hb) (s1.ext hb) rfl rfl ht).mono ?_
  rintro e w' ⟨a, cap, rfl, h1, h2, h3⟩
  exact ⟨a, cap, rfl, h1, own_up h2 (by simp), ext_trans hb h3⟩
end CCCatR
end Go.Proofs.YtemenlcigengeaaGreatDoor
namespace Go.Proofs.YtemenlcigengeaaGreatDoor
namespace Nm
theorem winsOf_append (a : Int) (l m : List Tri) : winsOf a (l ++ m) = winsOf a l ++ winsOf a m := by
  unfold winsOf; rw [List.filter_append, List.map_append]
theorem zip_pre (f : Bool → Bool → Int) : ∀ (a b c d : List Bool), ∃ r, List.zipWith f (a ++ c) (b ++ d) = List.zipWith f a b ++ r
  | [], b, c, d => ⟨_, rfl⟩
  | _ :: _, [], c, d => ⟨_, by simp; rfl⟩
  | x :: a, y :: b, c, d => by
    obtain ⟨r, h⟩ := zip_pre f a b c d
    exact ⟨r, by simp [h]⟩
/-- more trials only lengthen the pairs -/
theorem pairZ_more (l m : List Tri) : ∃ r, pairZ (l ++ m) = pairZ l ++ r := by
  unfold pairZ; rw [winsOf_append, winsOf_append]; exact zip_pre _ _ _ _ _
theorem evTrail_more (ev : Nat → Nat → Rat) : ∀ (l r : List Int) (u v : Nat), ∃ t, evTrail ev u v (l ++ r) = evTrail ev u v l ++ t
  | [], _, _, _ => ⟨_, rfl⟩
  | p :: l, r, u, v => by
    obtain ⟨t, h⟩ := evTrail_more ev l r (if p = 1 then u + 1 else u) (if p = -1 then v + 1 else v)
    exact ⟨t, by simp only [List.cons_append, evTrail, h]⟩
theorem decAt_range (dec : Nat → Nat → Bool) : ∀ (l : List Int) (u v k : Nat), decAt dec u v k l = 0 ∨ (k < decAt dec u v k l ∧ decAt dec u v k l ≤ k + l.length)
  | [], _, _, _ => .inl rfl
  | p :: l, u, v, k => by
    simp only [decAt]
    generalize (if p = 1 then u + 1 else u) = u'
    generalize (if p = -1 then v + 1 else v) = v'
    split
    · right; simp
    · rcases decAt_range dec l u' v' (k + 1) with h | h
      · exact .inl h
      · right; simp only [List.length_cons]; omega
theorem decAt_more (dec : Nat → Nat → Bool) : ∀ (l r : List Int) (u v k : Nat), (decAt dec u v k l ≠ 0 → decAt dec u v k (l ++ r) = decAt dec u v k l) ∧ (decAt dec u v k l = 0 → decAt dec u v k (l ++ r) = 0 ∨ k + l.length < decAt dec u v k (l ++ r))
  | [], r, u, v, k => ⟨fun h => absurd rfl h, fun _ => by
      rcases decAt_range dec r u v k with h | h
      · exact .inl h
      · exact .inr h.1⟩
  | p :: l, r, u, v, k => by
    simp only [List.cons_append, decAt]
    generalize (if p = 1 then u + 1 else u) = u'
    generalize (if p = -1 then v + 1 else v) = v'
    split
    · exact ⟨fun _ => rfl, fun h => by omega⟩
    · obtain ⟨h1, h2⟩ := decAt_more dec l r u' v' (k + 1)
      refine ⟨h1, fun h => ?_⟩
      rcases h2 h with h3 | h3
      · exact .inl h3
      · right; simp only [List.length_cons]; omega
/-- the law's last line -/
theorem stays (d k : Int) (n m : ByteArray) (l r : List Tri) (h1 : decF d k n m l = 0) (h2 : decF d k n m (l ++ r) = 0) :
    ∃ t, crsV d k n m (l ++ r) = crsV d k n m l ++ t ∧ (decV d k n m l ≠ 0 → decV d k n m (l ++ r) = decV d k n m l) ∧ (decV d k n m l = 0 → decV d k n m (l ++ r) = 0 ∨ (crsV d k n m l).length < decV d k n m (l ++ r)) := by
  unfold crsV decV
  rw [if_pos h1, if_pos h2, if_pos h1, if_pos h2]
  obtain ⟨s, hs⟩ := pairZ_more l r
  rw [hs, evTrail_length]
  obtain ⟨t, ht⟩ := evTrail_more (evQ d k.toNat) (pairZ l) s 0 0
  obtain ⟨m1, m2⟩ := decAt_more (decB d k.toNat (rQ n m)⁻¹) (pairZ l) s 0 0 0
  refine ⟨t, ht, m1, fun h => ?_⟩
  have := m2 h
  rw [Nat.zero_add] at this
  exact this
end Nm
end Go.Proofs.YtemenlcigengeaaGreatDoor
