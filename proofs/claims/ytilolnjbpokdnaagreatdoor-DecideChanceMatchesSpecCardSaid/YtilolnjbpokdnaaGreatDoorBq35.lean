/- What the chances' inner loop holds; a run of next and entry as laws of the walk. -/
import Derived.Test.YtilolnjbpokdnaaGreatDoorBq34
import Derived.Test.YtilolnjbpokdnaaGreatDoorBq19
import Derived.Test.YtilolnjbpokdnaaGreatDoorBq28
import Derived.Test.YtilolnjbpokdnaaGreatDoorBq02
namespace Go.Proofs.YtilolnjbpokdnaaGreatDoor
open Go.RowKit
namespace Ch
open _root_.Go.Proofs.YtilolnjbpokdnaaGreatDoor.Nm
section
variable {P : Program} {w : World} {ops : Array Oper} {rest : List Oper} {o : Oper} {a : Act} {Q : Exit → Act → World → Prop}
theorem wpList_next_run (hg : o.guard = none) (x : Operand) (hop : o.op = Op.next x false) {it : Nat} (hx : a.eval x = .pointer (some ⟨it, 0, none⟩)) {v : Value} {w' : World} (h : (Instr.next (.pointer (some ⟨it, 0, none⟩)) false o.type).run P w = .ok v w')
    (hK : wpList P ops Q rest (a.put o.dst v) w') : wpList P ops Q (o :: rest) a w := by
  refine wpList_plain hg fun K' hK' => ?_
  unfold Oper.wp
  simp [execOp, hop, hx, h, Result.andThen]
  exact hK' _ _ hK
end
theorem Fr.trans2 {X Y : Nat → Prop} {w w' w'' : World} (h : Fr X w w') (k : Fr Y w' w'') (hY : ∀ z, z < w.heap.size → Y z → X z) : Fr X w w'' :=
  ⟨k.os.trans h.os, k.tape.trans h.tape, k.output.trans h.output, fun i hi hX => (k.block i (Nat.lt_of_lt_of_le hi h.size) (fun y => hX (hY i hi y))).trans (h.block i hi hX), h.word.trans k.word⟩
structure R3 (w wx : World) (d : Int) (bets : Nat) (q : Rat) (b : Bool) (a1 : Option Addr) (n1 c1 : Nat) (a2 : Option Addr) (n2 c2 : Nat) (bu bt bp bl : Nat) (tu tp : X3) (uq fq : Rat) (p1 p2 U V E : Nat) : Prop where
  low : w.heap.size < wx.heap.size
  bet : Box wx w.heap.size (betA d bets b a1 n1 c1 a2 n2 c2)
  bok : Bett wx d bets q b a1 n1 c1 a2 n2 c2
  un : Box wx bu (x3C tu)
  xu : XR wx (x3V tu) uq
  at_ : Box wx bt #[.int .i64 (p1 : Int), .int .i64 (p2 : Int)]
  pr : Box wx bp (x3C tp)
  xp : XR wx (x3V tp) fq
  ls : Box wx bl #[.int .i64 (U : Int), .int .i64 (V : Int), .int .i64 (E : Int)]
section
variable {w wx wy : World} {d : Int} {bets : Nat} {q : Rat} {b : Bool} {a1 : Option Addr} {n1 c1 : Nat} {a2 : Option Addr} {n2 c2 : Nat} {bu bt bp bl : Nat} {tu tp : X3} {uq fq : Rat} {p1 p2 U V E : Nat}
theorem R3.ext (h : R3 w wx d bets q b a1 n1 c1 a2 n2 c2 bu bt bp bl tu tp uq fq p1 p2 U V E) (hb : Below wx.heap.size wx wy) : R3 w wy d bets q b a1 n1 c1 a2 n2 c2 bu bt bp bl tu tp uq fq p1 p2 U V E :=
  ⟨Nat.lt_of_lt_of_le h.low hb.size, h.bet.ext hb, h.bok.ext hb, h.un.ext hb, h.xu.ext hb, h.at_.ext hb, h.pr.ext hb, h.xp.ext hb, h.ls.ext hb⟩
theorem R3.fr {X : Nat → Prop} (h : R3 w wx d bets q b a1 n1 c1 a2 n2 c2 bu bt bp bl tu tp uq fq p1 p2 U V E) (hf : Fr X wx wy) (h1 : ¬ X w.heap.size) (h2 : ¬ X bu) (h3 : ¬ X bt) (h4 : ¬ X bp) (h5 : ¬ X bl) : R3 w wy d bets q b a1 n1 c1 a2 n2 c2 bu bt bp bl tu tp uq fq p1 p2 U V E :=
  ⟨Nat.lt_of_lt_of_le h.low hf.size, hf.box h.bet h1, Bett.kp h.bok hf.word, hf.box h.un h2, hf.xr h.xu, hf.box h.at_ h3, hf.box h.pr h4, hf.xr h.xp, hf.box h.ls h5⟩
end
theorem box2_0 {w : World} {b : Nat} {u v : Value} (h : Box w b #[u, v]) (x : Value) : Box (w.setCell ⟨b, 0, none⟩ x) b #[x, v] := by
  refine ⟨by simp; exact h.1, fun j => ?_⟩
  match j with
  | 0 => have h0 := h.2 0; exact World.cell?_setCell_same _ _ _ h0
  | 1 => rw [World.cell?_setCell_other _ _ _ _ (by simp)]; exact h.2 1
  | j + 2 => rw [World.cell?_setCell_other _ _ _ _ (by simp)]; exact h.2 (j + 2)
theorem box2_1 {w : World} {b : Nat} {u v : Value} (h : Box w b #[u, v]) (x : Value) : Box (w.setCell ⟨b, 1, none⟩ x) b #[u, x] := by
  refine ⟨by simp; exact h.1, fun j => ?_⟩
  match j with
  | 0 => rw [World.cell?_setCell_other _ _ _ _ (by simp)]; exact h.2 0
  | 1 => have h0 := h.2 1; exact World.cell?_setCell_same _ _ _ h0
  | j + 2 => rw [World.cell?_setCell_other _ _ _ _ (by simp)]; exact h.2 (j + 2)
/-- the contributions but for the last of a pair -/
def part (u d e : Rat) (f : Pt → Rat) (done : List (Pt × Value)) (p : Pt) (j : Nat) : List (Pt × Rat) := outs u d e f done ++ (out u d e f p).take j
theorem part_zero (u d e : Rat) (f : Pt → Rat) (done : List (Pt × Value)) (p : Pt) : part u d e f done p 0 = outs u d e f done := by simp [part]
theorem part_three (u d e : Rat) (f : Pt → Rat) (done : List (Pt × Value)) (p : Pt × Value) : part u d e f done p.1 3 = outs u d e f (done ++ [p]) := by
  rw [outs_snoc]; rfl
theorem part_1 (u d e : Rat) (f : Pt → Rat) (done : List (Pt × Value)) (p1 p2 : Nat) : part u d e f done (p1, p2) 1 = part u d e f done (p1, p2) 0 ++ [((p1 + 1, p2), f (p1, p2) * u)] := by
  unfold part; simp [out, tr]
theorem part_2 (u d e : Rat) (f : Pt → Rat) (done : List (Pt × Value)) (p1 p2 : Nat) : part u d e f done (p1, p2) 2 = part u d e f done (p1, p2) 1 ++ [((p1, p2 + 1), f (p1, p2) * d)] := by
  unfold part; simp [out, tr]
theorem part_3 (u d e : Rat) (f : Pt → Rat) (done : List (Pt × Value)) (p1 p2 : Nat) : part u d e f done (p1, p2) 3 = part u d e f done (p1, p2) 2 ++ [((p1, p2), f (p1, p2) * e)] := by
  unfold part; simp [out, tr]
theorem part_mem {u d e : Rat} {f : Pt → Rat} {done : List (Pt × Value)} {p : Pt} {j : Nat} : ∀ c ∈ part u d e f done p j, c ∈ ((done.map (·.1)) ++ [p]).flatMap (out u d e f) := by
  intro c hc
  unfold part outs at hc
  rw [List.flatMap_append]
  rcases List.mem_append.1 hc with hc | hc
  · exact List.mem_append_left _ hc
  · refine List.mem_append_right _ ?_
    simp; exact List.mem_of_mem_take hc
theorem part_len {u d e : Rat} {f : Pt → Rat} {done : List (Pt × Value)} {p : Pt} {j : Nat} : (part u d e f done p j).length ≤ 3 * (done.length + 1) := by
  unfold part
  rw [List.length_append, outs_len, List.length_take]
  have : (out u d e f p).length = 3 := rfl
  omega
end Ch
end Go.Proofs.YtilolnjbpokdnaaGreatDoor
