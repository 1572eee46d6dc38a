/- takes and sortedCuts of the reference. Printed by gen_tog.py. -/
import Derived.Test.YtiogfdkdhfmamaaGreatDoorRb13
import Derived.Test.YtiogfdkdhfmamaaGreatDoorRb14
namespace Go.Proofs.YtiogfdkdhfmamaaGreatDoor
open Go.RowKit
namespace Rg
open _root_.Go.Proofs.YtiogfdkdhfmamaaGreatDoor.Nt (RH RH.cell RH.box RH.lt RH.new RH.ext RH.fre RH.set RH.other)
def wayF : Nat → Bool → Bool → Bool
  | 0 => fun p q => p || q
  | 1 => fun p q => p && q
  | _ => fun p q => p && !q
theorem wayF_ff (n : Nat) : wayF n false false = false := by
  match n with
  | 0 => rfl
  | 1 => rfl
  | n + 2 => rfl
theorem takes_at (n : Nat) (hn : n ≤ 2) (p q : Bool) (w : World) : Calls Tryz.prog 34 #[.int .i64 (n : Int), .bool p, .bool q] w fun e w' => e = .returned (.bool (wayF n p q)) ∧ Below w.heap.size w w' := by
  obtain rfl | rfl | rfl : n = 0 ∨ n = 1 ∨ n = 2 := by omega
  all_goals
    cases p <;> cases q
    all_goals
      go_enter Tryz.func34, Tryz.ntmps34
      go_wp2
      go_ret
      exact ⟨rfl, Below.refl _ _⟩
theorem flat_take (C : List CA) (j : Nat) : (C.flatMap caL).take (j * 5) = (C.take j).flatMap caL ∧ (C.flatMap caL).drop (j * 5) = (C.drop j).flatMap caL := by
  have e0 : C.flatMap caL = (C.take j).flatMap caL ++ (C.drop j).flatMap caL := by rw [← List.flatMap_append, List.take_append_drop]
  by_cases h : j ≤ C.length
  · have l1 : ((C.take j).flatMap caL).length = j * 5 := by rw [flat_length caL_len, List.length_take, Nat.min_eq_left h]
    rw [e0]
    exact ⟨List.take_left' l1, List.drop_left' l1⟩
  · have l1 : (C.flatMap caL).length = C.length * 5 := flat_length caL_len C
    rw [List.take_of_length_le (by omega), List.drop_eq_nil_of_le (by omega), List.take_of_length_le (by omega), List.drop_eq_nil_of_le (by omega)]
    exact ⟨rfl, rfl⟩
/-- places in order, each once -/
def AscC (C : List CA) : Prop := C.Pairwise (fun a b => cmpC a.c b.c < 0)
theorem asc_ins {C : List CA} {c : CA} {j : Nat} (h : AscC C) (h1 : ∀ m x, m < j → C[m]? = some x → cmpC x.c c.c < 0) (h2 : ∀ x, C[j]? = some x → 0 < cmpC x.c c.c) : AscC (C.take j ++ [c] ++ C.drop j) := by
  unfold AscC at h ⊢
  have hsp := h
  rw [← List.take_append_drop j C] at hsp
  obtain ⟨p1, p2, p3⟩ := List.pairwise_append.1 hsp
  have hlo : ∀ x ∈ C.take j, cmpC x.c c.c < 0 := fun x hx => by
    obtain ⟨m, hm, rfl⟩ := List.getElem_of_mem hx
    rw [List.length_take] at hm
    refine h1 m _ (by omega) ?_
    rw [List.getElem_take]
    exact List.getElem?_eq_getElem (by omega)
  have hhi : ∀ y ∈ C.drop j, cmpC c.c y.c < 0 := fun y hy => by
    by_cases hj : j < C.length
    · have h3 := h2 _ (List.getElem?_eq_getElem hj)
      have h4 := linC.anti C[j].c c.c
      rw [List.drop_eq_getElem_cons hj] at hy p2
      rcases List.mem_cons.1 hy with rfl | hy
      · omega
      · have h5 := (List.pairwise_cons.1 p2).1 y hy
        exact linC.lt_le (by omega) (by omega : cmpC C[j].c y.c ≤ 0)
    · rw [List.drop_eq_nil_of_le (by omega)] at hy; cases hy
  refine List.pairwise_append.2 ⟨List.pairwise_append.2 ⟨p1, List.pairwise_singleton _ _, fun x hx y hy => ?_⟩, p2, fun x hx y hy => ?_⟩
  · rw [List.mem_singleton.1 hy]; exact hlo x hx
  · rcases List.mem_append.1 hx with hx | hx
    · exact p3 x hx y hy
    · rw [List.mem_singleton.1 hx]; exact hhi y hy
theorem mem_ins {C : List CA} {c : CA} {j : Nat} {x : Ct} : x ∈ (C.take j ++ [c] ++ C.drop j).map (·.c) ↔ x ∈ C.map (·.c) ∨ x = c.c := by
  have e0 : C.map (·.c) = (C.take j).map (·.c) ++ (C.drop j).map (·.c) := by rw [← List.map_append, List.take_append_drop]
  rw [e0]
  simp only [List.map_append, List.map_cons, List.map_nil, List.mem_append, List.mem_singleton]
  constructor
  · rintro ((h | h) | h)
    · exact .inl (.inl h)
    · exact .inr h
    · exact .inl (.inr h)
  · rintro ((h | h) | h)
    · exact .inl (.inl h)
    · exact .inr h
    · exact .inl (.inr h)
theorem w_drew2 (w : World) : Below w.heap.size w w.drew.drew := ((Below.refl _ _).drew).drew
/-- what the loop over places holds: k of them are sorted in -/
structure SrtI (W0 : World) (U : List CA) (k : Nat) (C : List CA) : Prop where
  asc : AscC C
  mem : ∀ x : Ct, x ∈ C.map (·.c) ↔ x ∈ (U.take k).map (·.c)
  ok : ∀ c ∈ C, c.ok W0
  len : C.length ≤ k
theorem SrtI.skip {W0 : World} {U C : List CA} {k j : Nat} {c x : CA} (h : SrtI W0 U k C) (hc : U[k]? = some c) (hU : ∀ c ∈ U, okC c.c) (hx : C[j]? = some x) (h0 : cmpC x.c c.c = 0) : SrtI W0 U (k + 1) C := by
  have hxm : x.c ∈ (U.take k).map (·.c) := (h.mem _).1 (List.mem_map_of_mem (List.mem_of_getElem? hx))
  obtain ⟨u, hu, hue⟩ := List.mem_map.1 hxm
  have he : x.c = c.c := linC.zero _ _ (by rw [← hue]; exact hU u (List.mem_of_mem_take hu)) (hU c (List.mem_of_getElem? hc)) h0
  refine ⟨h.asc, fun y => ?_, h.ok, Nat.le_succ_of_le h.len⟩
  obtain ⟨hk, rfl⟩ := List.getElem?_eq_some_iff.1 hc
  rw [h.mem, List.take_succ_eq_append_getElem hk, List.map_append, List.mem_append]
  constructor
  · exact .inl
  · rintro (h | h)
    · exact h
    · have : y = (U[k]).c := by simpa using h
      rw [this, ← he]; exact hxm
theorem SrtI.put {W0 : World} {U C : List CA} {k j : Nat} {c : CA} (h : SrtI W0 U k C) (hc : U[k]? = some c) (hok : c.ok W0) (h1 : ∀ m x, m < j → C[m]? = some x → cmpC x.c c.c < 0) (h2 : ∀ x, C[j]? = some x → 0 < cmpC x.c c.c) : SrtI W0 U (k + 1) (C.take j ++ [c] ++ C.drop j) := by
  refine ⟨asc_ins h.asc h1 h2, fun y => ?_, fun x hx => ?_, ?_⟩
  · obtain ⟨hk, rfl⟩ := List.getElem?_eq_some_iff.1 hc
    rw [mem_ins, h.mem, List.take_succ_eq_append_getElem hk, List.map_append, List.mem_append]
    simp
  · rcases List.mem_append.1 hx with hx | hx
    · rcases List.mem_append.1 hx with hx | hx
      · exact h.ok x (List.mem_of_mem_take hx)
      · rw [List.mem_singleton.1 hx]; exact hok
    · exact h.ok x (List.mem_of_mem_drop hx)
  · have := h.len
    simp only [List.length_append, List.length_take, List.length_drop, List.length_singleton]
    omega
set_option maxRecDepth 100000 in
set_option maxHeartbeats 8000000 in
theorem sortedCuts_at (U : List CA) (a : Option Addr) (n : Nat) (w0 w : World) (hb0 : Below w0.heap.size w0 w) (hs : Sl w (.slice a U.length n) U.length (U.flatMap caL)) (hok : ∀ c ∈ U, c.ok w0) (hU : ∀ c ∈ U, okC c.c) (hl : U.length ≤ 8000) :
    Calls Tryz.prog 33 #[.slice a U.length n] w fun e w' => ∃ v C, e = .returned v ∧ OC w' w.heap.size v C ∧ SrtI w0 U U.length C ∧ Below w.heap.size w w' := by
  have HU := Lib.hid hU
  have HOK := Lib.hid hok
  have HS := Lib.hid hs
  have hl63 : (U.length : Int) ≤ 8000 := by omega
  clear hU hok hs
  go_enter Tryz.func33, Tryz.ntmps33
  go_wp2
  go_loopw [3, 9] (fun v i wr => ∃ (k : Nat) (C : List CA), k ≤ U.length ∧ i = .int .i64 (k : Int) ∧ Hid (SrtI w0 U k C) ∧ OC wr w.heap.size v C ∧ Below w.heap.size w wr) (fun _ i _ => U.length - (intOf i).toNat)
  case atStart => exact ⟨0, [], by omega, rfl, Lib.hid ⟨List.Pairwise.nil, (by simp), (fun _ h => by cases h), Nat.le_refl _⟩, World.ownsRow_nil _ _ _ _, Below.refl _ _⟩
  case round =>
    obtain ⟨k, C, hk, rfl, HI, hO, hw⟩ := hrel
    generalize hX : wr = X at *
    clear hX
    by_cases hlt : k < U.length
    · obtain ⟨c, hc⟩ : ∃ c, U[k]? = some c := ⟨_, List.getElem?_eq_getElem hlt⟩
      have hki : (k : Int) < (U.length : Int) := by omega
      have hcell : ∀ (j : Nat) (x : Value), (caL c)[j]? = some x → ∃ p o, a = some ⟨p, o, none⟩ ∧ X.cell? ⟨p, o + k * 5 + j, none⟩ = some x := fun j x hx => by
        obtain ⟨_, _, e, _, _, _, h3⟩ := HS.out.ext hw
        cases e
        obtain ⟨p, o, e, h4⟩ := h3 _ _ (flat_get caL_len U k c hc j x hx)
        exact ⟨p, o, e, by rw [Nat.add_assoc]; exact h4⟩
      obtain ⟨p, o, rfl, _⟩ := hcell 0 _ rfl
      have hcc : ∀ (j : Nat) (x : Value), (caL c)[j]? = some x → X.cell? ⟨p, o + k * 5 + j, none⟩ = some x := fun j x hx => by
        obtain ⟨p', o', e, h4⟩ := hcell j x hx
        cases e; exact h4
      have HC := Lib.hid hc
      have hCl : (C.length : Int) ≤ 8000 := by have := HI.out.len; omega
      clear hcell hc
      go_upto_region 5 with (first | (refine wpList_load_agg rfl _ _ rfl p (o + k * 5) (by rfl) (caL c) hcc _ Tryz.underlying31 rfl (ca_info c) ?_) | (refine wpList_store_row rfl _ _ _ rfl X.heap.size (caL c).toArray rfl rfl _ _ (Nt.RH.new _ _ _) (ca_info c) rfl (ca_all c) ?_))
      refine wp_stored fun W hbW hR => ?_
      have hOW := ownsRow_ext hO hbW
      have hwW := hw.trans (hbW.mono hw.size)
      have hne : u3.ownBlock ≠ some X.heap.size := fun e => by have := (own_base hO _ e).2; omega
      have hXW : w.heap.size ≤ X.heap.size := hw.size
      clear hbW hO hw hcc
      generalize X.heap.size = b at *
      have HW0W := Lib.hid (hb0.trans (hwW.mono hb0.size))
      go_wp2
      go_loopw [6] (fun i wr => ∃ j : Nat, j ≤ C.length ∧ i = .int .i64 (j : Int) ∧ Hid (∀ m x, m < j → C[m]? = some x → cmpC x.c c.c < 0) ∧ Below W.heap.size W wr) (fun i _ => C.length - (intOf i).toNat)
      case atStart => exact ⟨0, by omega, rfl, Lib.hid (fun m x h => by omega), Below.refl _ _⟩
      case round =>
        obtain ⟨j, hj, rfl, HJ, hwj⟩ := hrel
        generalize hX : wr = Y at *
        clear hX
        have hOY := ownsRow_ext hOW hwj
        have hRY := hR.ext hwj
        have hwY := hwW.trans (hwj.mono hwW.size)
        have HW0 := Lib.hid (ext_trans HW0W.out hwj)
        by_cases hjl : j < C.length
        · obtain ⟨g, cap, rfl, hg1, hg2⟩ := hOY.form (by omega)
          obtain ⟨x, hx⟩ : ∃ x, C[j]? = some x := ⟨_, List.getElem?_eq_getElem hjl⟩
          have HCX := Lib.hid hx
          obtain ⟨z, hz⟩ : ∃ z, cmpC x.c c.c = z := ⟨_, rfl⟩
          have HZ := Lib.hid hz
          have hrow : ∀ (t : Nat) (v : Value), (caL x)[t]? = some v → Y.cell? ⟨g, j * 5 + t, none⟩ = some v := fun t v hv => by
            have ht : t < 5 := by have := (List.getElem?_eq_some_iff.1 hv).1; rwa [caL_len] at this
            rw [hOY.cellAt (j * 5 + t) (by omega)]
            exact flat_get caL_len C j x hx t v hv
          clear hx hz
          have hx0 : ∀ p : GrownOf Y, p.v.cell? ⟨g, j * 5, none⟩ = some (.int .i64 x.c.v.ma) := fun p => cell_later p.b (hrow 0 _ rfl)
          have hx1 : ∀ p : GrownOf Y, p.v.cell? ⟨g, j * 5 + 1, none⟩ = some (.int .i64 x.c.v.mi) := fun p => cell_later p.b (hrow 1 _ rfl)
          have hx2 : ∀ p : GrownOf Y, p.v.cell? ⟨g, j * 5 + 2, none⟩ = some (.int .i64 x.c.v.pa) := fun p => cell_later p.b (hrow 2 _ rfl)
          have hx3 : ∀ p : GrownOf Y, p.v.cell? ⟨g, j * 5 + 3, none⟩ = some (.slice x.a x.c.v.pre.length x.n) := fun p => cell_later p.b (hrow 3 _ rfl)
          have hx4 : ∀ p : GrownOf Y, p.v.cell? ⟨g, j * 5 + 4, none⟩ = some (.bool x.c.af) := fun p => cell_later p.b (hrow 4 _ rfl)
          have hy0 : ∀ p : GrownOf Y, p.v.cell? ⟨b, 0, none⟩ = some (.int .i64 c.c.v.ma) := fun p => (ca_cells (hRY.ext p.b)).1
          have hy1 : ∀ p : GrownOf Y, p.v.cell? ⟨b, 1, none⟩ = some (.int .i64 c.c.v.mi) := fun p => (ca_cells (hRY.ext p.b)).2.1
          have hy2 : ∀ p : GrownOf Y, p.v.cell? ⟨b, 2, none⟩ = some (.int .i64 c.c.v.pa) := fun p => (ca_cells (hRY.ext p.b)).2.2.1
          have hy3 : ∀ p : GrownOf Y, p.v.cell? ⟨b, 3, none⟩ = some (.slice c.a c.c.v.pre.length c.n) := fun p => (ca_cells (hRY.ext p.b)).2.2.2.1
          have hy4 : ∀ p : GrownOf Y, p.v.cell? ⟨b, 4, none⟩ = some (.bool c.c.af) := fun p => (ca_cells (hRY.ext p.b)).2.2.2.2
          have hcmp : ∀ p : GrownOf Y, Calls Tryz.prog 31 #[.agg #[.int .i64 x.c.v.ma, .int .i64 x.c.v.mi, .int .i64 x.c.v.pa, .slice x.a x.c.v.pre.length x.n, .bool x.c.af], .agg #[.int .i64 c.c.v.ma, .int .i64 c.c.v.mi, .int .i64 c.c.v.pa, .slice c.a c.c.v.pre.length c.n, .bool c.c.af]] p.v fun e w' => e = .returned (.int .i64 z) ∧ Below p.v.heap.size p.v w' := fun p => by
            rw [← HZ.out]
            exact refCompareCuts_at x c p.v ((HI.out.ok x (List.mem_of_getElem? HCX.out)).ext (ext_trans HW0.out p.b)) ((HOK.out c (List.mem_of_getElem? HC.out)).ext (ext_trans HW0.out p.b))
          have hji : (j : Int) < (C.length : Int) := by omega
          have hjn : (j : Int) ≠ (C.length : Int) := by omega
          have hjb : ((j : Int) == (C.length : Int)) = false := by simpa using hjn
          have hj0 : (0 : Int) ≤ (j : Int) := Int.natCast_nonneg _
          by_cases hz0 : z < 0
          · have HJN : Hid (∀ m y, m < j + 1 → C[m]? = some y → cmpC y.c c.c < 0) := Lib.hid (fun m y hm hy => by
              by_cases e : m = j
              · subst e
                rw [HCX.out] at hy
                cases hy
                rw [HZ.out]; exact hz0
              · exact HJ.out m y (by omega) hy)
            go_wp2_with fail
            (refine wp_region_below (by kernel_rfl) (by kernel_rfl) ?_
             repeat (quiet_step (first | (go_at_call 31; refine callsGrow (hcmp _))))
             refine wpQuiet_nil ?_
             intro wq hw'
             have hbq := GrownOf.of hw'
             clear hw')
            clear hx0 hx1 hx2 hx3 hx4 hy0 hy1 hy2 hy3 hy4 hcmp
            have hwq := ext_trans hwj hbq
            clear hbq hrow hOY hRY hwY
            go_wp2
            go_roundw
            case rel => exact ⟨j + 1, by omega, by go_num, HJN, hwq⟩
            case measure => simp [intOf]; omega
          · have hz1 : ¬ z < 0 := hz0
            go_wp2_with fail
            (refine wp_region_below (by kernel_rfl) (by kernel_rfl) ?_
             repeat (quiet_step (first | (go_at_call 31; refine callsGrow (hcmp _))))
             refine wpQuiet_nil ?_
             intro wq hw'
             have hbq := GrownOf.of hw'
             clear hw')
            clear hx0 hx1 hx2 hx3 hx4 hy0 hy1 hy2 hy3 hy4 hcmp
            have hOQ := ownsRow_ext hOY hbq
            have hRQ := hRY.ext hbq
            have hwQ := hwY.trans (hbq.mono hwY.size)
            replace HW0 := Lib.hid (ext_trans HW0.out hbq)
            have hrow : ∀ (t : Nat) (v : Value), (caL x)[t]? = some v → wq.cell? ⟨g, j * 5 + t, none⟩ = some v := fun t v hv => cell_later hbq (hrow t v hv)
            clear hbq hOY hRY hwY hwj hR hOW hwW
            generalize wq = Q at *
            have hRY := hRQ
            clear hRQ
            have hx0 : ∀ p : GrownOf Q, p.v.cell? ⟨g, j * 5, none⟩ = some (.int .i64 x.c.v.ma) := fun p => cell_later p.b (hrow 0 _ rfl)
            have hx1 : ∀ p : GrownOf Q, p.v.cell? ⟨g, j * 5 + 1, none⟩ = some (.int .i64 x.c.v.mi) := fun p => cell_later p.b (hrow 1 _ rfl)
            have hx2 : ∀ p : GrownOf Q, p.v.cell? ⟨g, j * 5 + 2, none⟩ = some (.int .i64 x.c.v.pa) := fun p => cell_later p.b (hrow 2 _ rfl)
            have hx3 : ∀ p : GrownOf Q, p.v.cell? ⟨g, j * 5 + 3, none⟩ = some (.slice x.a x.c.v.pre.length x.n) := fun p => cell_later p.b (hrow 3 _ rfl)
            have hx4 : ∀ p : GrownOf Q, p.v.cell? ⟨g, j * 5 + 4, none⟩ = some (.bool x.c.af) := fun p => cell_later p.b (hrow 4 _ rfl)
            have hy0 : ∀ p : GrownOf Q, p.v.cell? ⟨b, 0, none⟩ = some (.int .i64 c.c.v.ma) := fun p => (ca_cells (hRY.ext p.b)).1
            have hy1 : ∀ p : GrownOf Q, p.v.cell? ⟨b, 1, none⟩ = some (.int .i64 c.c.v.mi) := fun p => (ca_cells (hRY.ext p.b)).2.1
            have hy2 : ∀ p : GrownOf Q, p.v.cell? ⟨b, 2, none⟩ = some (.int .i64 c.c.v.pa) := fun p => (ca_cells (hRY.ext p.b)).2.2.1
            have hy3 : ∀ p : GrownOf Q, p.v.cell? ⟨b, 3, none⟩ = some (.slice c.a c.c.v.pre.length c.n) := fun p => (ca_cells (hRY.ext p.b)).2.2.2.1
            have hy4 : ∀ p : GrownOf Q, p.v.cell? ⟨b, 4, none⟩ = some (.bool c.c.af) := fun p => (ca_cells (hRY.ext p.b)).2.2.2.2
            have hcmp : ∀ p : GrownOf Q, Calls Tryz.prog 31 #[.agg #[.int .i64 x.c.v.ma, .int .i64 x.c.v.mi, .int .i64 x.c.v.pa, .slice x.a x.c.v.pre.length x.n, .bool x.c.af], .agg #[.int .i64 c.c.v.ma, .int .i64 c.c.v.mi, .int .i64 c.c.v.pa, .slice c.a c.c.v.pre.length c.n, .bool c.c.af]] p.v fun e w' => e = .returned (.int .i64 z) ∧ Below p.v.heap.size p.v w' := fun p => by
              rw [← HZ.out]
              exact refCompareCuts_at x c p.v ((HI.out.ok x (List.mem_of_getElem? HCX.out)).ext (ext_trans HW0.out p.b)) ((HOK.out c (List.mem_of_getElem? HC.out)).ext (ext_trans HW0.out p.b))
            by_cases hze : z = 0
            · subst hze
              go_wp2_with fail
              (refine wp_region_below (by kernel_rfl) (by kernel_rfl) ?_
               repeat (quiet_step (first | (go_at_call 31; refine callsGrow (hcmp _))))
               refine wpQuiet_nil ?_
               intro wq hw'
               have hbq := GrownOf.of hw'
               clear hw')
              clear hx0 hx1 hx2 hx3 hx4 hy0 hy1 hy2 hy3 hy4 hcmp
              have hOZ := ownsRow_ext hOQ hbq
              have hwZ := hwQ.trans (hbq.mono hwQ.size)
              have HI9 := Lib.hid (HI.out.skip HC.out HU.out HCX.out HZ.out)
              clear hbq hOQ hwQ hrow hRY
              go_wp2
              go_roundw
              case rel => exact ⟨k + 1, C, by omega, by go_num, HI9, hOZ, hwZ⟩
              case measure => simp [intOf]; omega
            · have hzn : (z != 0) = true := by simpa using hze
              have HJ2 : Hid (∀ y, C[j]? = some y → 0 < cmpC y.c c.c) := Lib.hid (fun y hy => by
                rw [HCX.out] at hy
                cases hy
                rw [HZ.out]; omega)
              clear hze
              go_wp2_with fail
              (refine wp_region_below (by kernel_rfl) (by kernel_rfl) ?_
               repeat (quiet_step (first | (go_at_call 31; refine callsGrow (hcmp _))))
               refine wpQuiet_nil ?_
               intro wq hw'
               have hbq := GrownOf.of hw'
               clear hw')
              clear hx0 hx1 hx2 hx3 hx4 hy0 hy1 hy2 hy3 hy4 hcmp
              have hOZ := ownsRow_ext hOQ hbq
              have hwZ := hwQ.trans (hbq.mono hwQ.size)
              have hRZ := hRY.ext hbq
              clear hbq hOQ hwQ hrow hRY
              generalize wq = Y9 at *
              have hcl : (caL c).length = 5 := rfl
              have hneB : (Value.slice (some ⟨g, 0, none⟩) C.length cap).ownBlock ≠ some Y9.heap.size := fun e => by have := (own_base hOZ _ e).2; omega
              have hdY : w.heap.size ≤ (Y9.alloc (.cells (caL c).toArray 31)).heap.size := Nat.le_trans hwZ.size (ext_alloc _ _).size
              have HINS := Lib.hid (insertCut_at (Y9.alloc (.cells (caL c).toArray 31)) w.heap.size (.slice (some ⟨g, 0, none⟩) C.length cap) C.length j (C.flatMap caL) (ownsRow_ext hOZ (ext_alloc _ _)) hj Y9.heap.size 1 (caL c) rfl _ (Nt.RH.new Y9 (caL c).toArray 31) (caL_one c) (by
                intro u hu
                obtain ⟨x, _, hx⟩ := List.mem_flatMap.1 hu
                exact caL_one x u hx) hneB (by omega) hdY)
              have HCY : ∀ (j : Nat) (v : Value), (caL c)[j]? = some v → Y9.cell? ⟨b, 0 + j, none⟩ = some v := fun j v hj => by rw [Nat.zero_add, hRZ.cell]; exact (List.getElem?_toArray).trans hj
              have HOZ := Lib.hid hOZ
              have HWZ := Lib.hid hwZ
              clear hneB hOZ hwZ hRZ
              go_wp2_with (refine wpList_load_agg rfl _ _ rfl b 0 (by rfl) (caL c) HCY _ Tryz.underlying31 rfl (ca_info c) ?_)
              refine HINS.out.mono ?_
              rintro e w9 ⟨v9, rfl, hO9, hg9⟩
              have hO9' : OC w9 w.heap.size v9 (C.take j ++ [c] ++ C.drop j) := by
                have e1 : (C.take j ++ [c] ++ C.drop j).flatMap caL = (C.flatMap caL).take (j * 5) ++ caL c ++ (C.flatMap caL).drop (j * 5) := by
                  rw [(flat_take C j).1, (flat_take C j).2]; simp
                have e2 : (C.take j ++ [c] ++ C.drop j).length = C.length + 1 := by simp only [List.length_append, List.length_take, List.length_drop, List.length_singleton]; omega
                show w9.ownsRow _ _ 5 _ (C.take j ++ [c] ++ C.drop j).length _
                rw [e1, e2]; exact hO9
              have hw9 : Below w.heap.size w w9 := below_own (HWZ.out.trans ((ext_alloc Y9 _).mono HWZ.out.size)) (ownsRow_ext HOZ.out (ext_alloc Y9 _)) hg9 hdY
              have HI9 := Lib.hid (HI.out.put HC.out (HOK.out c (List.mem_of_getElem? HC.out)) HJ.out HJ2.out)
              clear hO9 hg9 HINS hdY hcl HCY
              go_wp2
              go_roundw
              case rel => exact ⟨k + 1, C.take j ++ [c] ++ C.drop j, by omega, by go_num, HI9, hO9', hw9⟩
              case measure => simp [intOf]; omega
        · have hji : ¬ ((j : Int) < (C.length : Int)) := by omega
          have hje : j = C.length := by omega
          have hjb : ((j : Int) == (C.length : Int)) = true := by rw [hje]; simp
          have HJ2 : Hid (∀ y, C[j]? = some y → 0 < cmpC y.c c.c) := Lib.hid (fun y hy => by rw [List.getElem?_eq_none (by omega)] at hy; cases hy)
          clear hje
          obtain ⟨a9, c9, hv9, hn9, hm9, _⟩ := Sl.ofOwn hOY
          subst hv9
          have HOY := Lib.hid hOY
          have HRY := Lib.hid hRY
          have HWY := Lib.hid hwY
          clear hOY hRY hwY hwj hR hOW hwW
          go_wp2_with fail
          go_big_region
          go_wp2_with fail
          go_big_region
          have hOZ := ownsRow_ext HOY.out (w_drew2 Y)
          have hwZ := HWY.out.trans ((w_drew2 Y).mono HWY.out.size)
          have hRZ := HRY.out.ext (w_drew2 Y)
          generalize Y.drew.drew = Y9 at *
          have hcl : (caL c).length = 5 := rfl
          have hneB : (Value.slice a9 C.length c9).ownBlock ≠ some Y9.heap.size := fun e => by have := (own_base hOZ _ e).2; omega
          have hdY : w.heap.size ≤ (Y9.alloc (.cells (caL c).toArray 31)).heap.size := Nat.le_trans hwZ.size (ext_alloc _ _).size
          have HINS := Lib.hid (insertCut_at (Y9.alloc (.cells (caL c).toArray 31)) w.heap.size (.slice a9 C.length c9) C.length j (C.flatMap caL) (ownsRow_ext hOZ (ext_alloc _ _)) hj Y9.heap.size 1 (caL c) rfl _ (Nt.RH.new Y9 (caL c).toArray 31) (caL_one c) (by
            intro u hu
            obtain ⟨x, _, hx⟩ := List.mem_flatMap.1 hu
            exact caL_one x u hx) hneB (by omega) hdY)
          have HCY : ∀ (j : Nat) (v : Value), (caL c)[j]? = some v → Y9.cell? ⟨b, 0 + j, none⟩ = some v := fun j v hj => by rw [Nat.zero_add, hRZ.cell]; exact (List.getElem?_toArray).trans hj
          have HOZ := Lib.hid hOZ
          have HWZ := Lib.hid hwZ
          clear hneB hOZ hwZ hRZ
          go_wp2_with (refine wpList_load_agg rfl _ _ rfl b 0 (by rfl) (caL c) HCY _ Tryz.underlying31 rfl (ca_info c) ?_)
          refine HINS.out.mono ?_
          rintro e w9 ⟨v9, rfl, hO9, hg9⟩
          have hO9' : OC w9 w.heap.size v9 (C.take j ++ [c] ++ C.drop j) := by
            have e1 : (C.take j ++ [c] ++ C.drop j).flatMap caL = (C.flatMap caL).take (j * 5) ++ caL c ++ (C.flatMap caL).drop (j * 5) := by
              rw [(flat_take C j).1, (flat_take C j).2]; simp
            have e2 : (C.take j ++ [c] ++ C.drop j).length = C.length + 1 := by simp only [List.length_append, List.length_take, List.length_drop, List.length_singleton]; omega
            show w9.ownsRow _ _ 5 _ (C.take j ++ [c] ++ C.drop j).length _
            rw [e1, e2]; exact hO9
          have hw9 : Below w.heap.size w w9 := below_own (HWZ.out.trans ((ext_alloc Y9 _).mono HWZ.out.size)) (ownsRow_ext HOZ.out (ext_alloc Y9 _)) hg9 hdY
          have HI9 := Lib.hid (HI.out.put HC.out (HOK.out c (List.mem_of_getElem? HC.out)) HJ.out HJ2.out)
          clear hO9 hg9 HINS hdY hcl HCY
          go_wp2
          go_roundw
          case rel => exact ⟨k + 1, C.take j ++ [c] ++ C.drop j, by omega, by go_num, HI9, hO9', hw9⟩
          case measure => simp [intOf]; omega
    · have HF : Hid (∃ v C, Ending.returned u3 = .returned v ∧ OC X w.heap.size v C ∧ SrtI w0 U U.length C ∧ Below w.heap.size w X) := Lib.hid ⟨u3, C, rfl, hO, by
        have h := HI.out
        rwa [show k = U.length by omega] at h, hw⟩
      clear HI hO hw
      go_wp2
      go_ret
      exact HF.out
end Rg
end Go.Proofs.YtiogfdkdhfmamaaGreatDoor
