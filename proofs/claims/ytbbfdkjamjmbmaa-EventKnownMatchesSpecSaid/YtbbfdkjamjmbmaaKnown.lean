/- knownOf and known of the reference. -/
import Derived.Test.YtbbfdkjamjmbmaaShards
namespace Go.Proofs.Ytbbfdkjamjmbmaa
open Go.RowKit
def mx (a b : Int) : Int := if a < b then b else a
def mn (a b : Int) : Int := if b < a then b else a
/-- what is known of a shard, from what was ahead -/
def kOf (s : ByteArray) : Int → Int → List Ev → Int
  | out, _, [] => out
  | out, n, e :: r => if e.shard = s then (if e.number = n + 1 then kOf s (if e.kind = 3 then mx out e.time else out) (n + 1) r else out) else kOf s out n r
theorem kOf_step (s : ByteArray) (out n : Int) {l : List Ev} {k : Nat} {e : Ev} (h : l[k]? = some e) : kOf s out n (l.drop k) = if e.shard = s then (if e.number = n + 1 then kOf s (if e.kind = 3 then mx out e.time else out) (n + 1) (l.drop (k + 1)) else out) else kOf s out n (l.drop (k + 1)) := by
  obtain ⟨hk, rfl⟩ := List.getElem?_eq_some_iff.1 h
  rw [List.drop_eq_getElem_cons hk]; rfl
theorem ne_toList {a b : ByteArray} (h : a ≠ b) : (a.toList == b.toList) = false := by
  simp only [beq_eq_false_iff_ne, ne_eq, ByteArray.toList_eq]; exact fun e => h (bytes_ext e)

set_option maxRecDepth 100000 in
set_option maxHeartbeats 16000000 in
theorem ref7_knownOf (l : List Ev) (hck : ∀ e ∈ l, checkE e = 0) (hlen : l.length ≤ 20000) (s : ByteArray) (a : Option Addr) (c : Nat) (w : World) (hs : Sl w (.slice a l.length c) l.length (l.flatMap evL)) :
    Calls Try.prog 51 #[.slice a l.length c, .string s] w fun e w' => e = .returned (.int .i64 (kOf s 0 0 l)) ∧ Below w.heap.size w w' := by
  have HI := Lib.hid ev_info
  have HCK := Lib.hid hck
  clear hck
  go_enter Try.func51, Try.ntmps51
  go_wp2
  go_loopw [5, 6, 11] (fun o n i wr => ∃ (k m : Nat) (out : Int), k ≤ l.length ∧ m ≤ k ∧ i = .int .i64 k ∧ n = .int .i64 m ∧ o = .int .i64 out ∧ Hid (kOf s 0 0 l = kOf s out m (l.drop k)) ∧ Below w.heap.size w wr) (fun _ _ i _ => l.length - (intOf i).toNat)
  case atStart => exact ⟨0, 0, 0, by omega, by omega, rfl, rfl, rfl, rfl, Below.refl _ _⟩
  case round =>
    obtain ⟨k, m, out, hk, hmk, rfl, rfl, rfl, HK, hb⟩ := hrel
    by_cases hlt : k < l.length
    · have hgk := List.getElem?_eq_getElem hlt
      obtain ⟨hn1, hn2, ht1, ht2⟩ := number_ok (HCK.out l[k] (List.getElem_mem _))
      generalize l[k] = e at hgk hn1 hn2 ht1 ht2
      obtain ⟨b, o, rfl, e0, e1, e2, e3, e4, e5, e6, e7⟩ := ev_cells (hs.ext hb) hgk
      have HST : Hid (kOf s 0 0 l = if e.shard = s then (if e.number = m + 1 then kOf s (if e.kind = 3 then mx out e.time else out) (m + 1) (l.drop (k + 1)) else out) else kOf s out m (l.drop (k + 1))) := by
        have := HK.out; rw [kOf_step s out m hgk] at this; exact this
      clear hgk
      go_upto_region 5 with (fail)
      clear e0 e1 e2 e3 e4 e5 e6 e7
      refine wp_box1 fun X hszX hbX hX => ?_
      have hbx := ext_trans hb hbX
      have g0 := hX.2 0
      have g1 := hX.2 1
      have g2 := hX.2 2
      have g3 := hX.2 3
      clear hX hszX hbX hb
      by_cases hsh : e.shard = s
      · have hsb : (e.shard.toList == s.toList) = true := by rw [hsh]; simp
        have HS2 : Hid (kOf s 0 0 l = (if e.number = m + 1 then kOf s (if e.kind = 3 then mx out e.time else out) (m + 1) (l.drop (k + 1)) else out)) := by
          have := HST.out; rw [if_pos hsh] at this; exact this
        clear hsh HST
        by_cases hnm : e.number = m + 1
        · have HS3 : Hid (kOf s 0 0 l = kOf s (if e.kind = 3 then mx out e.time else out) (m + 1) (l.drop (k + 1))) := by
            have := HS2.out; rw [if_pos hnm] at this; exact this
          clear HS2
          by_cases hkd : e.kind = 3
          · have HS4 : Hid (kOf s 0 0 l = kOf s (mx out e.time) ((m + 1 : Nat) : Int) (l.drop (k + 1))) := by
              have := HS3.out; rw [if_pos hkd] at this; exact this
            clear HS3
            go_wp2
            all_goals go_roundw
            case rel => exact ⟨k + 1, m + 1, mx out e.time, by omega, by omega, by go_num, by go_num, rfl, HS4, hbx⟩
            case measure => simp [intOf]; omega
          · have HS4 : Hid (kOf s 0 0 l = kOf s out ((m + 1 : Nat) : Int) (l.drop (k + 1))) := by
              have := HS3.out; rw [if_neg hkd] at this; exact this
            clear HS3
            go_wp2
            all_goals go_roundw
            case rel => exact ⟨k + 1, m + 1, out, by omega, by omega, by go_num, by go_num, rfl, HS4, hbx⟩
            case measure => simp [intOf]; omega
        · have HS3 : Hid (kOf s 0 0 l = out) := by
            have := HS2.out; rw [if_neg hnm] at this; exact this
          clear HS2
          go_wp2
          go_ret
          exact ⟨ret_int HS3.out.symm, hbx⟩
      · have hsb : (e.shard.toList == s.toList) = false := ne_toList hsh
        have HS2 : Hid (kOf s 0 0 l = kOf s out m (l.drop (k + 1))) := by
          have := HST.out; rw [if_neg hsh] at this; exact this
        clear hsh HST
        go_wp2
        all_goals go_roundw
        case rel => exact ⟨k + 1, m, out, by omega, by omega, by go_num, rfl, rfl, HS2, hbx⟩
        case measure => simp [intOf]; omega
    · have HF : Hid (kOf s 0 0 l = out) := by
        have := HK.out
        rw [drop_nil l k (by omega)] at this
        exact this
      go_wp2
      go_ret
      exact ⟨ret_int HF.out.symm, hb⟩
end Go.Proofs.Ytbbfdkjamjmbmaa
