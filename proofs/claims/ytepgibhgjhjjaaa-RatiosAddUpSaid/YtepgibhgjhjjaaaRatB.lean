/- The walk of the law RatiosAddUp. -/
import Derived.Test.YtepgibhgjhjjaaaRatA
namespace Go.Proofs.Ytepgibhgjhjjaaa
open Go.RowKit
namespace Nm
set_option maxRecDepth 100000 in
set_option maxHeartbeats 4000000 in
theorem law_walk (n1 d1 n2 d2 n3 d3 : ByteArray) (h1 : n1.size ≤ maxLen) (h2 : d1.size ≤ maxLen) (h3 : n2.size ≤ maxLen) (h4 : d2.size ≤ maxLen) (h5 : n3.size ≤ maxLen) (h6 : d3.size ≤ maxLen) (w : World) :
    Calls Try.prog 5 #[.agg #[.string n1, .string d1], .agg #[.string n2, .string d2], .agg #[.string n3, .string d3]] w fun e w' => e = .returned (.bool true) ∧ Below w.heap.size w w' := by
  have HCO := Lib.hid (op_comm n1 d1 n2 d2)
  have HDI := Lib.hid (@distr n1 d1 n2 d2 n3 d3)
  have HTW := Lib.hid (@twice n1 d1)
  have HZ1 := Lib.hid (op_size (· + ·) n1 d1 n2 d2)
  have HZ2 := Lib.hid (op_size (· * ·) n1 d1 n3 d3)
  have HZ3 := Lib.hid (op_size (· * ·) n2 d2 n3 d3)
  have HZ4 := Lib.hid (inv_size n1 d1)
  go_enter Try.func5, Try.ntmps5
  go_upto_region 1 with (fail)
  refine wp_box3 fun W hsz hbW hA hB hC => ?_
  clear hsz
  obtain ⟨_, oA⟩ := id hA
  obtain ⟨_, oB⟩ := id hB
  go_wp2_with fail
  refine (sum_at n1 d1 n2 d2 h1 h2 h3 h4 W).mono ?_
  rintro e w1 ⟨rfl, hb1⟩
  have HS1 := Lib.hid (sum_at n2 d2 n1 d1 h3 h4 h1 h2)
  rw [HCO.out.1, HCO.out.2] at HS1
  have HS2 := Lib.hid (fun w => product_at (opN (· + ·) n1 d1 n2 d2) (opD (· + ·) n1 d1 n2 d2) n3 d3 HZ1.out.1 HZ1.out.2 h5 h6 w)
  generalize hs1 : opN (· + ·) n1 d1 n2 d2 = s1 at *
  generalize ht1 : opD (· + ·) n1 d1 n2 d2 = t1 at *
  generalize hf1 : opF (· + ·) n1 d1 n2 d2 = f1 at *
  generalize opF (· + ·) n2 d2 n1 d1 = f2 at *
  clear hs1 ht1 hf1
  have hA1 := hA.ext hb1
  have hB1 := hB.ext hb1
  have hC1 := hC.ext hb1
  have hbw1 := ext_trans hbW hb1
  clear hA hB hC hbW hb1 oA oB
  obtain ⟨_, oA⟩ := id hA1
  obtain ⟨_, oB⟩ := id hB1
  go_wp2_with fail
  refine (HS1.out _).mono ?_
  rintro e w2 ⟨rfl, hb2⟩
  have hS2 := (Box.new w1 #[Value.string s1, Value.string t1] 31).ext hb2
  have hg2 := ext_trans (ext_alloc w1 _) hb2
  have hA2 := hA1.ext hg2
  have hB2 := hB1.ext hg2
  have hC2 := hC1.ext hg2
  have hbw2 := ext_trans hbw1 hg2
  clear hA1 hB1 hC1 hbw1 hb2 hg2 oA oB HS1
  generalize w1.heap.size = g1 at *
  obtain ⟨_, oS⟩ := id hS2
  obtain ⟨_, oC⟩ := id hC2
  have hb0 : Below w2.heap.size w2 (w2.alloc (Obj.cells #[Value.string s1, Value.string t1] 31)) := ext_alloc _ _
  by_cases hf1 : f1 = 0
  · by_cases hf2 : f2 = 0
    · subst hf1
      subst hf2
      have HD2 := Lib.hid (HDI.out rfl)
      clear HDI HCO
      go_wp2_with fail
      refine (HS2.out _).mono ?_
      rintro e w3 ⟨rfl, hb3⟩
      generalize opN (· * ·) s1 t1 n3 d3 = s2 at *
      generalize opD (· * ·) s1 t1 n3 d3 = t2 at *
      generalize opF (· * ·) s1 t1 n3 d3 = f3 at *
      have hg3 := ext_trans hb0 hb3
      have hA3 := hA2.ext hg3
      have hB3 := hB2.ext hg3
      have hC3 := hC2.ext hg3
      have hbw3 := ext_trans hbw2 hg3
      clear hA2 hB2 hC2 hbw2 hb3 hg3 oS oC hb0 hS2 HS2
      obtain ⟨_, oA⟩ := id hA3
      obtain ⟨_, oC⟩ := id hC3
      go_wp2_with fail
      refine (product_at n1 d1 n3 d3 h1 h2 h5 h6 _).mono ?_
      rintro e w4 ⟨rfl, hb4⟩
      have hL4 := (Box.new w3 #[Value.string s2, Value.string t2] 31).ext hb4
      have hg4 := ext_trans (ext_alloc w3 _) hb4
      have hA4 := hA3.ext hg4
      have hB4 := hB3.ext hg4
      have hC4 := hC3.ext hg4
      have hbw4 := ext_trans hbw3 hg4
      have HS4 := Lib.hid (fun w => sum_at (opN (· * ·) n1 d1 n3 d3) (opD (· * ·) n1 d1 n3 d3) (opN (· * ·) n2 d2 n3 d3) (opD (· * ·) n2 d2 n3 d3) HZ2.out.1 HZ2.out.2 HZ3.out.1 HZ3.out.2 w)
      generalize opN (· * ·) n1 d1 n3 d3 = s3 at *
      generalize opD (· * ·) n1 d1 n3 d3 = t3 at *
      generalize opF (· * ·) n1 d1 n3 d3 = f4 at *
      generalize w3.heap.size = g2 at *
      clear hA3 hB3 hC3 hbw3 hb4 hg4 oA oC
      obtain ⟨_, oB⟩ := id hB4
      obtain ⟨_, oC⟩ := id hC4
      go_wp2_with fail
      refine (product_at n2 d2 n3 d3 h3 h4 h5 h6 _).mono ?_
      rintro e w5 ⟨rfl, hb5⟩
      have hM5 := (Box.new w4 #[Value.string s3, Value.string t3] 31).ext hb5
      have hg5 := ext_trans (ext_alloc w4 _) hb5
      have hA5 := hA4.ext hg5
      have hL5 := hL4.ext hg5
      have hbw5 := ext_trans hbw4 hg5
      generalize opN (· * ·) n2 d2 n3 d3 = s4 at *
      generalize opD (· * ·) n2 d2 n3 d3 = t4 at *
      generalize opF (· * ·) n2 d2 n3 d3 = f5 at *
      generalize w4.heap.size = g3 at *
      clear hA4 hB4 hC4 hL4 hbw4 hb5 hg5 oB oC
      obtain ⟨_, oM⟩ := id hM5
      have hb50 : Below w5.heap.size w5 (w5.alloc (Obj.cells #[Value.string s4, Value.string t4] 31)) := ext_alloc _ _
      go_wp2_with fail
      refine (HS4.out _).mono ?_
      rintro e w6 ⟨rfl, hb6⟩
      have hg6 := ext_trans hb50 hb6
      have hA6 := hA5.ext hg6
      have hL6 := hL5.ext hg6
      have hbw6 := ext_trans hbw5 hg6
      generalize opN (· + ·) s3 t3 s4 t4 = s5 at *
      generalize opD (· + ·) s3 t3 s4 t4 = t5 at *
      generalize opF (· + ·) s3 t3 s4 t4 = f6 at *
      clear hA5 hL5 hM5 hbw5 hb6 hg6 oM hb50 HS4
      obtain ⟨_, oA⟩ := id hA6
      obtain ⟨_, oL⟩ := id hL6
      have hA7 := hA6.ext (ext_alloc w6 (Obj.cells #[Value.string s5, Value.string t5] 31))
      have hbw7 := ext_trans hbw6 (ext_alloc w6 (Obj.cells #[Value.string s5, Value.string t5] 31))
      have HA7 := Lib.hid hA7
      have HBW7 := Lib.hid hbw7
      clear hA6 hL6 hbw6 hA7 hbw7
      by_cases k3 : f3 = 0
      · by_cases k4 : f4 = 0
        · by_cases k5 : f5 = 0
          · by_cases k6 : f6 = 0
            · obtain ⟨e1, e2⟩ := HD2.out k3 k4 k5 k6
              subst k3; subst k4; subst k5; subst k6; subst e1; subst e2
              clear HD2
              go_upto_region 13 with (fail)
              have hA8 := HA7.out
              have hbw8 := HBW7.out
              clear HA7 HBW7 oA oL
              generalize (w6.alloc (Obj.cells #[Value.string s2, Value.string t2] 31)) = w7 at *
              obtain ⟨_, oA⟩ := id hA8
              go_wp2_with fail
              refine (inverse_at n1 d1 h1 h2 _).mono ?_
              rintro e w8 ⟨rfl, hb8⟩
              have HS8 := Lib.hid (fun w => inverse_at (iN n1 d1) (iD n1 d1) HZ4.out.1 HZ4.out.2 w)
              have hA9 := hA8.ext hb8
              have hbw9 := ext_trans hbw8 hb8
              clear hA8 hbw8 hb8 oA
              by_cases hi : iF n1 d1 = 0
              · have HTW2 := Lib.hid (HTW.out hi)
                generalize iN n1 d1 = s6 at *
                generalize iD n1 d1 = t6 at *
                rw [hi]
                clear hi HTW
                have hb80 : Below w8.heap.size w8 (w8.alloc (Obj.cells #[Value.string s6, Value.string t6] 31)) := ext_alloc _ _
                have HIC := Lib.hid (HS8.out (w8.alloc (Obj.cells #[Value.string s6, Value.string t6] 31)))
                rw [HTW2.out.1, HTW2.out.2.1, HTW2.out.2.2] at HIC
                go_wp2_with fail
                refine HIC.out.mono ?_
                rintro e w9 ⟨rfl, hb9⟩
                have hgA := ext_trans hb80 hb9
                have hA10 := hA9.ext hgA
                have hbw10 := ext_trans hbw9 hgA
                clear HS8 HIC HTW2 hA9 hbw9 hb9 hgA hb80
                obtain ⟨_, oA⟩ := id hA10
                go_wp2
                go_ret
                exact ⟨rfl, ext_trans hbw10 (ext_alloc _ _)⟩
              · have hne : (iF n1 d1 != 0) = true := by simp [hi]
                clear hi HTW HS8 hA9
                go_wp2
                go_ret
                exact ⟨rfl, ext_trans hbw9 (ext_alloc _ _)⟩
            · have k := k6
              clear k6
              subst k3; subst k4; subst k5
              have hne : ((f6 : Int) == 0) = false := by simpa using k
              clear k HD2
              go_upto_region 13 with (fail)
              have hA8 := HA7.out
              have hbw8 := HBW7.out
              clear HA7 HBW7 oA oL
              generalize (w6.alloc (Obj.cells #[Value.string s5, Value.string t5] 31)) = w7 at *
              obtain ⟨_, oA⟩ := id hA8
              go_wp2_with fail
              refine (inverse_at n1 d1 h1 h2 _).mono ?_
              rintro e w8 ⟨rfl, hb8⟩
              have HS8 := Lib.hid (fun w => inverse_at (iN n1 d1) (iD n1 d1) HZ4.out.1 HZ4.out.2 w)
              have hA9 := hA8.ext hb8
              have hbw9 := ext_trans hbw8 hb8
              clear hA8 hbw8 hb8 oA
              by_cases hi : iF n1 d1 = 0
              · have HTW2 := Lib.hid (HTW.out hi)
                generalize iN n1 d1 = s6 at *
                generalize iD n1 d1 = t6 at *
                rw [hi]
                clear hi HTW
                have hb80 : Below w8.heap.size w8 (w8.alloc (Obj.cells #[Value.string s6, Value.string t6] 31)) := ext_alloc _ _
                have HIC := Lib.hid (HS8.out (w8.alloc (Obj.cells #[Value.string s6, Value.string t6] 31)))
                rw [HTW2.out.1, HTW2.out.2.1, HTW2.out.2.2] at HIC
                go_wp2_with fail
                refine HIC.out.mono ?_
                rintro e w9 ⟨rfl, hb9⟩
                have hgA := ext_trans hb80 hb9
                have hA10 := hA9.ext hgA
                have hbw10 := ext_trans hbw9 hgA
                clear HS8 HIC HTW2 hA9 hbw9 hb9 hgA hb80
                obtain ⟨_, oA⟩ := id hA10
                go_wp2
                go_ret
                exact ⟨rfl, ext_trans hbw10 (ext_alloc _ _)⟩
              · have hne : (iF n1 d1 != 0) = true := by simp [hi]
                clear hi HTW HS8 hA9
                go_wp2
                go_ret
                exact ⟨rfl, ext_trans hbw9 (ext_alloc _ _)⟩
          · have k := k5
            clear k5
            subst k3; subst k4
            have hne : ((f5 : Int) == 0) = false := by simpa using k
            clear k HD2
            go_upto_region 13 with (fail)
            have hA8 := HA7.out
            have hbw8 := HBW7.out
            clear HA7 HBW7 oA oL
            generalize (w6.alloc (Obj.cells #[Value.string s5, Value.string t5] 31)) = w7 at *
            obtain ⟨_, oA⟩ := id hA8
            go_wp2_with fail
            refine (inverse_at n1 d1 h1 h2 _).mono ?_
            rintro e w8 ⟨rfl, hb8⟩
            have HS8 := Lib.hid (fun w => inverse_at (iN n1 d1) (iD n1 d1) HZ4.out.1 HZ4.out.2 w)
            have hA9 := hA8.ext hb8
            have hbw9 := ext_trans hbw8 hb8
            clear hA8 hbw8 hb8 oA
            by_cases hi : iF n1 d1 = 0
            · have HTW2 := Lib.hid (HTW.out hi)
              generalize iN n1 d1 = s6 at *
              generalize iD n1 d1 = t6 at *
              rw [hi]
              clear hi HTW
              have hb80 : Below w8.heap.size w8 (w8.alloc (Obj.cells #[Value.string s6, Value.string t6] 31)) := ext_alloc _ _
              have HIC := Lib.hid (HS8.out (w8.alloc (Obj.cells #[Value.string s6, Value.string t6] 31)))
              rw [HTW2.out.1, HTW2.out.2.1, HTW2.out.2.2] at HIC
              go_wp2_with fail
              refine HIC.out.mono ?_
              rintro e w9 ⟨rfl, hb9⟩
              have hgA := ext_trans hb80 hb9
              have hA10 := hA9.ext hgA
              have hbw10 := ext_trans hbw9 hgA
              clear HS8 HIC HTW2 hA9 hbw9 hb9 hgA hb80
              obtain ⟨_, oA⟩ := id hA10
              go_wp2
              go_ret
              exact ⟨rfl, ext_trans hbw10 (ext_alloc _ _)⟩
            · have hne : (iF n1 d1 != 0) = true := by simp [hi]
              clear hi HTW HS8 hA9
              go_wp2
              go_ret
              exact ⟨rfl, ext_trans hbw9 (ext_alloc _ _)⟩
        · have k := k4
          clear k4
          subst k3
          have hne : ((f4 : Int) == 0) = false := by simpa using k
          clear k HD2
          go_upto_region 13 with (fail)
          have hA8 := HA7.out
          have hbw8 := HBW7.out
          clear HA7 HBW7 oA oL
          generalize (w6.alloc (Obj.cells #[Value.string s5, Value.string t5] 31)) = w7 at *
          obtain ⟨_, oA⟩ := id hA8
          go_wp2_with fail
          refine (inverse_at n1 d1 h1 h2 _).mono ?_
          rintro e w8 ⟨rfl, hb8⟩
          have HS8 := Lib.hid (fun w => inverse_at (iN n1 d1) (iD n1 d1) HZ4.out.1 HZ4.out.2 w)
          have hA9 := hA8.ext hb8
          have hbw9 := ext_trans hbw8 hb8
          clear hA8 hbw8 hb8 oA
          by_cases hi : iF n1 d1 = 0
          · have HTW2 := Lib.hid (HTW.out hi)
            generalize iN n1 d1 = s6 at *
            generalize iD n1 d1 = t6 at *
            rw [hi]
            clear hi HTW
            have hb80 : Below w8.heap.size w8 (w8.alloc (Obj.cells #[Value.string s6, Value.string t6] 31)) := ext_alloc _ _
            have HIC := Lib.hid (HS8.out (w8.alloc (Obj.cells #[Value.string s6, Value.string t6] 31)))
            rw [HTW2.out.1, HTW2.out.2.1, HTW2.out.2.2] at HIC
            go_wp2_with fail
            refine HIC.out.mono ?_
            rintro e w9 ⟨rfl, hb9⟩
            have hgA := ext_trans hb80 hb9
            have hA10 := hA9.ext hgA
            have hbw10 := ext_trans hbw9 hgA
            clear HS8 HIC HTW2 hA9 hbw9 hb9 hgA hb80
            obtain ⟨_, oA⟩ := id hA10
            go_wp2
            go_ret
            exact ⟨rfl, ext_trans hbw10 (ext_alloc _ _)⟩
          · have hne : (iF n1 d1 != 0) = true := by simp [hi]
            clear hi HTW HS8 hA9
            go_wp2
            go_ret
            exact ⟨rfl, ext_trans hbw9 (ext_alloc _ _)⟩
      · have k := k3
        clear k3
        skip
        have hne : ((f3 : Int) == 0) = false := by simpa using k
        clear k HD2
        go_upto_region 13 with (fail)
        have hA8 := HA7.out
        have hbw8 := HBW7.out
        clear HA7 HBW7 oA oL
        generalize (w6.alloc (Obj.cells #[Value.string s5, Value.string t5] 31)) = w7 at *
        obtain ⟨_, oA⟩ := id hA8
        go_wp2_with fail
        refine (inverse_at n1 d1 h1 h2 _).mono ?_
        rintro e w8 ⟨rfl, hb8⟩
        have HS8 := Lib.hid (fun w => inverse_at (iN n1 d1) (iD n1 d1) HZ4.out.1 HZ4.out.2 w)
        have hA9 := hA8.ext hb8
        have hbw9 := ext_trans hbw8 hb8
        clear hA8 hbw8 hb8 oA
        by_cases hi : iF n1 d1 = 0
        · have HTW2 := Lib.hid (HTW.out hi)
          generalize iN n1 d1 = s6 at *
          generalize iD n1 d1 = t6 at *
          rw [hi]
          clear hi HTW
          have hb80 : Below w8.heap.size w8 (w8.alloc (Obj.cells #[Value.string s6, Value.string t6] 31)) := ext_alloc _ _
          have HIC := Lib.hid (HS8.out (w8.alloc (Obj.cells #[Value.string s6, Value.string t6] 31)))
          rw [HTW2.out.1, HTW2.out.2.1, HTW2.out.2.2] at HIC
          go_wp2_with fail
          refine HIC.out.mono ?_
          rintro e w9 ⟨rfl, hb9⟩
          have hgA := ext_trans hb80 hb9
          have hA10 := hA9.ext hgA
          have hbw10 := ext_trans hbw9 hgA
          clear HS8 HIC HTW2 hA9 hbw9 hb9 hgA hb80
          obtain ⟨_, oA⟩ := id hA10
          go_wp2
          go_ret
          exact ⟨rfl, ext_trans hbw10 (ext_alloc _ _)⟩
        · have hne : (iF n1 d1 != 0) = true := by simp [hi]
          clear hi HTW HS8 hA9
          go_wp2
          go_ret
          exact ⟨rfl, ext_trans hbw9 (ext_alloc _ _)⟩
    · subst hf1
      have hne : (f2 != 0) = true := by simp [hf2]
      have hbw3 := ext_trans hbw2 hb0
      clear hf2 HDI
      go_wp2
      go_ret
      exact ⟨rfl, hbw3⟩
  · have hne : (f1 != 0) = true := by simp [hf1]
    have hbw3 := ext_trans hbw2 hb0
    clear hf1 HDI
    go_wp2
    go_ret
    exact ⟨rfl, hbw3⟩
end Nm
end Go.Proofs.Ytepgibhgjhjjaaa
