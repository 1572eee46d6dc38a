/- The walk of the law of verdicts: for every plan and all trials it returns true, where the table of strconv lies. Printed by gen_lawvms.py. -/
import Derived.Test.YtmnmepbljegjeaaGreatDoorBa66
namespace Go.Proofs.YtmnmepbljegjeaaGreatDoor.lawVms
open Go.RowKit _root_.Go.Proofs.YtmnmepbljegjeaaGreatDoor.Nm
open _root_.Go.Proofs.YtmnmepbljegjeaaGreatDoor.Nt (Tab Tab.ext refVerdict_at refCheckPlan_at progCheckPlan_at)
set_option maxRecDepth 100000 in
set_option maxHeartbeats 16000000 in
theorem walk (P K : Int) (n m : ByteArray) (hn : n.size ≤ maxLen) (hm : m.size ≤ maxLen) (gs : List RT) (hgs : ∀ r ∈ gs, rtOk r) (pa : Option Addr) (pc : Nat) (goal : List Tri) (ga : Option Addr) (gc : Nat) (guards : List (List Tri)) (svs : List SV) (oa : Option Addr) (oc : Nat) (w : World)
    (hs : Sl w (.slice pa gs.length pc) gs.length (gs.flatMap rtL)) (hgo : Sl w (.slice ga goal.length gc) goal.length (goal.flatMap triL)) (hsv : Sl w (.slice oa svs.length oc) svs.length (svs.flatMap svL)) (hrw : RowsOf w triL svs guards) (hsz : svs.length * 24 ≤ 140737488351232) (ht : Tab w) :
    Calls Tryz.prog 12 #[.agg #[Value.int .i64 P, Value.int .i64 K, Value.string n, Value.string m, Value.slice pa gs.length pc], .slice ga goal.length gc, .slice oa svs.length oc] w fun e w' => e = .returned (.bool true) ∧ Below w.heap.size w w' := by
  have H := Lib.hid (And.intro (And.intro hn hm) (And.intro hgs (And.intro hs (And.intro hgo (And.intro hsv (And.intro hrw hsz))))))
  clear hn hm hgs hs hgo hsv hrw hsz
  obtain ⟨va, hva⟩ : ∃ x, (verA P K n m gs goal guards).1 = x := ⟨_, rfl⟩
  obtain ⟨vn, hvn⟩ : ∃ x, (verA P K n m gs goal guards).2 = x := ⟨_, rfl⟩
  obtain ⟨vf, hvf⟩ : ∃ x, verF P K n m gs goal guards = x := ⟨_, rfl⟩
  obtain ⟨pf, hpf⟩ : ∃ x, planF P K n m gs = x := ⟨_, rfl⟩
  have HV := Lib.hid (And.intro hva (And.intro hvn hvf))
  have HP := Lib.hid hpf
  clear hva hvn hvf hpf
  go_enter Tryz.func12, Tryz.ntmps12
  have HT0 := Lib.hid ht
  clear ht
  go_upto_region 1 with (fail)
  refine wp_box1 fun w1' hsz hbW hA0 => ?_
  clear hsz
  have HB_p := Lib.hid hA0
  have HW := Lib.hid hbW
  clear hbW hA0
  have c_p_0 : w1'.cell? ⟨w.heap.size, 0, none⟩ = some (.int .i64 P) := HB_p.out.2 0
  have c_p_1 : w1'.cell? ⟨w.heap.size, 1, none⟩ = some (.int .i64 K) := HB_p.out.2 1
  have c_p_2 : w1'.cell? ⟨w.heap.size, 2, none⟩ = some (.string n) := HB_p.out.2 2
  have c_p_3 : w1'.cell? ⟨w.heap.size, 3, none⟩ = some (.string m) := HB_p.out.2 3
  have c_p_4 : w1'.cell? ⟨w.heap.size, 4, none⟩ = some (.slice pa gs.length pc) := HB_p.out.2 4
  go_wp2_with fail
  refine (Verdict_at P K n m H.out.1.1 H.out.1.2 gs H.out.2.1 pa pc goal ga gc guards svs oa oc w1' (H.out.2.2.1.ext HW.out) (H.out.2.2.2.1.ext HW.out) (H.out.2.2.2.2.1.ext HW.out) (H.out.2.2.2.2.2.1.ext HW.out) H.out.2.2.2.2.2.2).mono ?_
  rintro e w2' ⟨rfl, hbz⟩
  rw [HV.out.1, HV.out.2.1, HV.out.2.2]
  replace HB_p := Lib.hid (HB_p.out.ext hbz)
  replace HW := Lib.hid (ext_trans HW.out hbz)
  clear c_p_0 c_p_1 c_p_2 c_p_3 c_p_4
  clear hbz
  have c_p_0 : w2'.cell? ⟨w.heap.size, 0, none⟩ = some (.int .i64 P) := HB_p.out.2 0
  have c_p_1 : w2'.cell? ⟨w.heap.size, 1, none⟩ = some (.int .i64 K) := HB_p.out.2 1
  have c_p_2 : w2'.cell? ⟨w.heap.size, 2, none⟩ = some (.string n) := HB_p.out.2 2
  have c_p_3 : w2'.cell? ⟨w.heap.size, 3, none⟩ = some (.string m) := HB_p.out.2 3
  have c_p_4 : w2'.cell? ⟨w.heap.size, 4, none⟩ = some (.slice pa gs.length pc) := HB_p.out.2 4
  go_wp2_with fail
  refine (refVerdict_at P K n m H.out.1.1 H.out.1.2 gs H.out.2.1 pa pc goal ga gc guards svs oa oc w2' (H.out.2.2.1.ext HW.out) (H.out.2.2.2.1.ext HW.out) (H.out.2.2.2.2.1.ext HW.out) (H.out.2.2.2.2.2.1.ext HW.out) H.out.2.2.2.2.2.2 (HT0.out.ext HW.out)).mono ?_
  rintro e w3' ⟨rfl, hbz⟩
  rw [HV.out.1, HV.out.2.1, HV.out.2.2]
  replace HB_p := Lib.hid (HB_p.out.ext hbz)
  replace HW := Lib.hid (ext_trans HW.out hbz)
  clear c_p_0 c_p_1 c_p_2 c_p_3 c_p_4
  clear hbz
  go_upto_region 3 with (fail)
  have c_p_0 : w3'.cell? ⟨w.heap.size, 0, none⟩ = some (.int .i64 P) := HB_p.out.2 0
  have c_p_1 : w3'.cell? ⟨w.heap.size, 1, none⟩ = some (.int .i64 K) := HB_p.out.2 1
  have c_p_2 : w3'.cell? ⟨w.heap.size, 2, none⟩ = some (.string n) := HB_p.out.2 2
  have c_p_3 : w3'.cell? ⟨w.heap.size, 3, none⟩ = some (.string m) := HB_p.out.2 3
  have c_p_4 : w3'.cell? ⟨w.heap.size, 4, none⟩ = some (.slice pa gs.length pc) := HB_p.out.2 4
  refine Grow.wp_region_grow 20 [TP.eq (.agg #[.int .i64 P, .int .i64 K, .string n, .string m, .slice pa gs.length pc]), TP.eq (.int .i64 pf), TP.eq (.agg #[.int .i64 P, .int .i64 K, .string n, .string m, .slice pa gs.length pc]), TP.eq (.int .i64 pf), TP.eq (.bool true), TP.eq (.bool true), TP.eq (.int .i64 va), TP.eq (.int .i64 va), TP.eq (.bool true), TP.eq (.bool true), TP.eq (.bool true), TP.eq (.int .i64 vn), TP.eq (.int .i64 vn), TP.eq (.bool true), TP.eq (.bool true), TP.eq (.bool true), TP.eq (.int .i64 vf), TP.eq (.int .i64 vf), TP.eq (.bool true), TP.eq (.bool true)] [[], [0], [], [2], [1, 3], [4], [5], [5], [5, 6, 7], [5, 8], [9], [10], [10], [10, 11, 12], [10, 13], [14], [15], [15], [15, 16, 17], [15, 18]] (by kernel_rfl) (by kernel_rfl) ⟨?o0vm, ?o1vm, ?o2vm, ?o3vm, ?o4vm, ?o5vm, ?o6vm, ?o7vm, ?o8vm, ?o9vm, ?o10vm, ?o11vm, ?o12vm, ?o13vm, ?o14vm, ?o15vm, ?o16vm, ?o17vm, ?o18vm, ?o19vm, trivial⟩ ?_
  case o0vm =>
    intro w' hb
    have c_p_0' : w'.cell? ⟨w.heap.size, 0, none⟩ = some (.int .i64 P) := (hb.cell (World.block_lt_of_cell? _ _ c_p_0)).trans c_p_0
    have c_p_1' : w'.cell? ⟨w.heap.size, 1, none⟩ = some (.int .i64 K) := (hb.cell (World.block_lt_of_cell? _ _ c_p_1)).trans c_p_1
    have c_p_2' : w'.cell? ⟨w.heap.size, 2, none⟩ = some (.string n) := (hb.cell (World.block_lt_of_cell? _ _ c_p_2)).trans c_p_2
    have c_p_3' : w'.cell? ⟨w.heap.size, 3, none⟩ = some (.string m) := (hb.cell (World.block_lt_of_cell? _ _ c_p_3)).trans c_p_3
    have c_p_4' : w'.cell? ⟨w.heap.size, 4, none⟩ = some (.slice pa gs.length pc) := (hb.cell (World.block_lt_of_cell? _ _ c_p_4)).trans c_p_4
    show wpList _ _ _ _ _ _
    go_wp2
    exact ⟨rfl, Below.refl _ _, rfl⟩
  case o1vm =>
    intro w' hb v1 hv1
    obtain rfl : v1 = _ := hv1
    show wpList _ _ _ _ _ _
    simp only [Grow.dstOf, List.getElem?_toArray, List.getElem?_cons_zero, Option.bind_some, Act.put, List.setIfInBounds_toArray, List.set_cons_succ, List.set_cons_zero]
    go_wp2_with fail
    refine (progCheckPlan_at P K n m H.out.1.1 H.out.1.2 gs H.out.2.1 pa pc w' (H.out.2.2.1.ext (ext_trans HW.out hb))).mono ?_
    rw [HP.out]
    rintro e wz ⟨rfl, hbz⟩
    go_wp2
    exact ⟨rfl, hbz, rfl⟩
  case o2vm =>
    intro w' hb
    have c_p_0' : w'.cell? ⟨w.heap.size, 0, none⟩ = some (.int .i64 P) := (hb.cell (World.block_lt_of_cell? _ _ c_p_0)).trans c_p_0
    have c_p_1' : w'.cell? ⟨w.heap.size, 1, none⟩ = some (.int .i64 K) := (hb.cell (World.block_lt_of_cell? _ _ c_p_1)).trans c_p_1
    have c_p_2' : w'.cell? ⟨w.heap.size, 2, none⟩ = some (.string n) := (hb.cell (World.block_lt_of_cell? _ _ c_p_2)).trans c_p_2
    have c_p_3' : w'.cell? ⟨w.heap.size, 3, none⟩ = some (.string m) := (hb.cell (World.block_lt_of_cell? _ _ c_p_3)).trans c_p_3
    have c_p_4' : w'.cell? ⟨w.heap.size, 4, none⟩ = some (.slice pa gs.length pc) := (hb.cell (World.block_lt_of_cell? _ _ c_p_4)).trans c_p_4
    show wpList _ _ _ _ _ _
    go_wp2
    exact ⟨rfl, Below.refl _ _, rfl⟩
  case o3vm =>
    intro w' hb v1 hv1
    obtain rfl : v1 = _ := hv1
    show wpList _ _ _ _ _ _
    simp only [Grow.dstOf, List.getElem?_toArray, List.getElem?_cons_succ, List.getElem?_cons_zero, Option.bind_some, Act.put, List.setIfInBounds_toArray, List.set_cons_succ, List.set_cons_zero]
    go_wp2_with fail
    refine (refCheckPlan_at P K n m H.out.1.1 H.out.1.2 gs H.out.2.1 pa pc w' (H.out.2.2.1.ext (ext_trans HW.out hb)) (HT0.out.ext (ext_trans HW.out hb))).mono ?_
    rw [HP.out]
    rintro e wz ⟨rfl, hbz⟩
    go_wp2
    exact ⟨rfl, hbz, rfl⟩
  case o4vm =>
    intro w' hb v1 hv1 v2 hv2
    obtain rfl : v1 = _ := hv1
    obtain rfl : v2 = _ := hv2
    show wpList _ _ _ _ _ _
    simp only [Grow.dstOf, List.getElem?_toArray, List.getElem?_cons_succ, List.getElem?_cons_zero, Option.bind_some, Act.put, List.setIfInBounds_toArray, List.set_cons_succ, List.set_cons_zero]
    go_wp2
    exact ⟨rfl, Below.refl _ _, rfl⟩
  case o5vm =>
    intro w' hb v1 hv1
    obtain rfl : v1 = _ := hv1
    show wpList _ _ _ _ _ _
    simp only [Grow.dstOf, List.getElem?_toArray, List.getElem?_cons_succ, List.getElem?_cons_zero, Option.bind_some, Act.put, List.setIfInBounds_toArray, List.set_cons_succ, List.set_cons_zero]
    go_wp2
    exact ⟨rfl, Below.refl _ _, rfl⟩
  case o6vm =>
    intro w' hb v1 hv1
    obtain rfl : v1 = _ := hv1
    show wpList _ _ _ _ _ _
    simp only [Grow.dstOf, List.getElem?_toArray, List.getElem?_cons_succ, List.getElem?_cons_zero, Option.bind_some, Act.put, List.setIfInBounds_toArray, List.set_cons_succ, List.set_cons_zero]
    go_wp2
    exact ⟨rfl, Below.refl _ _, rfl⟩
  case o7vm =>
    intro w' hb v1 hv1
    obtain rfl : v1 = _ := hv1
    show wpList _ _ _ _ _ _
    simp only [Grow.dstOf, List.getElem?_toArray, List.getElem?_cons_succ, List.getElem?_cons_zero, Option.bind_some, Act.put, List.setIfInBounds_toArray, List.set_cons_succ, List.set_cons_zero]
    go_wp2
    exact ⟨rfl, Below.refl _ _, rfl⟩
  case o8vm =>
    intro w' hb v1 hv1 v2 hv2 v3 hv3
    obtain rfl : v1 = _ := hv1
    obtain rfl : v2 = _ := hv2
    obtain rfl : v3 = _ := hv3
    show wpList _ _ _ _ _ _
    simp only [Grow.dstOf, List.getElem?_toArray, List.getElem?_cons_succ, List.getElem?_cons_zero, Option.bind_some, Act.put, List.setIfInBounds_toArray, List.set_cons_succ, List.set_cons_zero]
    go_wp2
    exact ⟨rfl, Below.refl _ _, rfl⟩
  case o9vm =>
    intro w' hb v1 hv1 v2 hv2
    obtain rfl : v1 = _ := hv1
    obtain rfl : v2 = _ := hv2
    show wpList _ _ _ _ _ _
    simp only [Grow.dstOf, List.getElem?_toArray, List.getElem?_cons_succ, List.getElem?_cons_zero, Option.bind_some, Act.put, List.setIfInBounds_toArray, List.set_cons_succ, List.set_cons_zero]
    go_wp2
    exact ⟨rfl, Below.refl _ _, rfl⟩
  case o10vm =>
    intro w' hb v1 hv1
    obtain rfl : v1 = _ := hv1
    show wpList _ _ _ _ _ _
    simp only [Grow.dstOf, List.getElem?_toArray, List.getElem?_cons_succ, List.getElem?_cons_zero, Option.bind_some, Act.put, List.setIfInBounds_toArray, List.set_cons_succ, List.set_cons_zero]
    go_wp2
    exact ⟨rfl, Below.refl _ _, rfl⟩
  case o11vm =>
    intro w' hb v1 hv1
    obtain rfl : v1 = _ := hv1
    show wpList _ _ _ _ _ _
    simp only [Grow.dstOf, List.getElem?_toArray, List.getElem?_cons_succ, List.getElem?_cons_zero, Option.bind_some, Act.put, List.setIfInBounds_toArray, List.set_cons_succ, List.set_cons_zero]
    go_wp2
    exact ⟨rfl, Below.refl _ _, rfl⟩
  case o12vm =>
    intro w' hb v1 hv1
    obtain rfl : v1 = _ := hv1
    show wpList _ _ _ _ _ _
    simp only [Grow.dstOf, List.getElem?_toArray, List.getElem?_cons_succ, List.getElem?_cons_zero, Option.bind_some, Act.put, List.setIfInBounds_toArray, List.set_cons_succ, List.set_cons_zero]
    go_wp2
    exact ⟨rfl, Below.refl _ _, rfl⟩
  case o13vm =>
    intro w' hb v1 hv1 v2 hv2 v3 hv3
    obtain rfl : v1 = _ := hv1
    obtain rfl : v2 = _ := hv2
    obtain rfl : v3 = _ := hv3
    show wpList _ _ _ _ _ _
    simp only [Grow.dstOf, List.getElem?_toArray, List.getElem?_cons_succ, List.getElem?_cons_zero, Option.bind_some, Act.put, List.setIfInBounds_toArray, List.set_cons_succ, List.set_cons_zero]
    go_wp2
    exact ⟨rfl, Below.refl _ _, rfl⟩
  case o14vm =>
    intro w' hb v1 hv1 v2 hv2
    obtain rfl : v1 = _ := hv1
    obtain rfl : v2 = _ := hv2
    show wpList _ _ _ _ _ _
    simp only [Grow.dstOf, List.getElem?_toArray, List.getElem?_cons_succ, List.getElem?_cons_zero, Option.bind_some, Act.put, List.setIfInBounds_toArray, List.set_cons_succ, List.set_cons_zero]
    go_wp2
    exact ⟨rfl, Below.refl _ _, rfl⟩
  case o15vm =>
    intro w' hb v1 hv1
    obtain rfl : v1 = _ := hv1
    show wpList _ _ _ _ _ _
    simp only [Grow.dstOf, List.getElem?_toArray, List.getElem?_cons_succ, List.getElem?_cons_zero, Option.bind_some, Act.put, List.setIfInBounds_toArray, List.set_cons_succ, List.set_cons_zero]
    go_wp2
    exact ⟨rfl, Below.refl _ _, rfl⟩
  case o16vm =>
    intro w' hb v1 hv1
    obtain rfl : v1 = _ := hv1
    show wpList _ _ _ _ _ _
    simp only [Grow.dstOf, List.getElem?_toArray, List.getElem?_cons_succ, List.getElem?_cons_zero, Option.bind_some, Act.put, List.setIfInBounds_toArray, List.set_cons_succ, List.set_cons_zero]
    go_wp2
    exact ⟨rfl, Below.refl _ _, rfl⟩
  case o17vm =>
    intro w' hb v1 hv1
    obtain rfl : v1 = _ := hv1
    show wpList _ _ _ _ _ _
    simp only [Grow.dstOf, List.getElem?_toArray, List.getElem?_cons_succ, List.getElem?_cons_zero, Option.bind_some, Act.put, List.setIfInBounds_toArray, List.set_cons_succ, List.set_cons_zero]
    go_wp2
    exact ⟨rfl, Below.refl _ _, rfl⟩
  case o18vm =>
    intro w' hb v1 hv1 v2 hv2 v3 hv3
    obtain rfl : v1 = _ := hv1
    obtain rfl : v2 = _ := hv2
    obtain rfl : v3 = _ := hv3
    show wpList _ _ _ _ _ _
    simp only [Grow.dstOf, List.getElem?_toArray, List.getElem?_cons_succ, List.getElem?_cons_zero, Option.bind_some, Act.put, List.setIfInBounds_toArray, List.set_cons_succ, List.set_cons_zero]
    go_wp2
    exact ⟨rfl, Below.refl _ _, rfl⟩
  case o19vm =>
    intro w' hb v1 hv1 v2 hv2
    obtain rfl : v1 = _ := hv1
    obtain rfl : v2 = _ := hv2
    show wpList _ _ _ _ _ _
    simp only [Grow.dstOf, List.getElem?_toArray, List.getElem?_cons_succ, List.getElem?_cons_zero, Option.bind_some, Act.put, List.setIfInBounds_toArray, List.set_cons_succ, List.set_cons_zero]
    go_wp2
    exact ⟨rfl, Below.refl _ _, rfl⟩
  intro w4' hbz u0 hu0 u1 hu1 u2 hu2 u3 hu3 u4 hu4 u5 hu5 u6 hu6 u7 hu7 u8 hu8 u9 hu9 u10 hu10 u11 hu11 u12 hu12 u13 hu13 u14 hu14 u15 hu15 u16 hu16 u17 hu17 u18 hu18 u19 hu19
  obtain rfl : u0 = _ := hu0
  obtain rfl : u1 = _ := hu1
  obtain rfl : u2 = _ := hu2
  obtain rfl : u3 = _ := hu3
  obtain rfl : u4 = _ := hu4
  obtain rfl : u5 = _ := hu5
  obtain rfl : u6 = _ := hu6
  obtain rfl : u7 = _ := hu7
  obtain rfl : u8 = _ := hu8
  obtain rfl : u9 = _ := hu9
  obtain rfl : u10 = _ := hu10
  obtain rfl : u11 = _ := hu11
  obtain rfl : u12 = _ := hu12
  obtain rfl : u13 = _ := hu13
  obtain rfl : u14 = _ := hu14
  obtain rfl : u15 = _ := hu15
  obtain rfl : u16 = _ := hu16
  obtain rfl : u17 = _ := hu17
  obtain rfl : u18 = _ := hu18
  obtain rfl : u19 = _ := hu19
  replace HB_p := Lib.hid (HB_p.out.ext hbz)
  replace HW := Lib.hid (ext_trans HW.out hbz)
  clear c_p_0 c_p_1 c_p_2 c_p_3 c_p_4
  clear hbz
  show wpList _ _ _ _ _ _
  simp only [Act.put, List.setIfInBounds_toArray, List.set_cons_succ, List.set_cons_zero]
  go_wp2
  go_ret
  exact ⟨rfl, HW.out⟩
end Go.Proofs.YtmnmepbljegjeaaGreatDoor.lawVms
