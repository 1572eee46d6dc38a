/- What comes later, without a broken promise, has no event before the time up to which all was known: plainly. -/
import Derived.Test.YtbbfdkjamjmbmaaDoorKnQ
import Derived.Test.YtbbfdkjamjmbmaaDoorBroken
namespace Go.Proofs.YtbbfdkjamjmbmaaDoor
theorem broken_none {l : List Ev} : ∀ n, brokenTo l n = [] → ∀ k e, k < n → l[k]? = some e → ¬ e.time < before l k
  | 0, _, k, _, hk, _ => by omega
  | n + 1, h, k, e, hk, he => by
    unfold brokenTo at h
    obtain ⟨h1, h2⟩ := List.append_eq_nil_iff.1 h
    by_cases hkn : k = n
    · subst hkn
      rw [he] at h2
      simp only at h2
      intro hlt
      rw [if_pos hlt] at h2; cases h2
    · exact broken_none n h1 k e (by omega) he
theorem promise_ge (pr : Int) (e : Ev) : pr ≤ promise pr e := by unfold promise; split <;> (try split) <;> omega
theorem promise_mark (pr : Int) {e : Ev} (h : e.kind = 3) : e.time ≤ promise pr e := by unfold promise; rw [if_pos h]; split <;> omega
/-- a mark's promise stands as long as the shard goes on -/
theorem prom_keep {l : List Ev} (ha : Asc l) {i : Nat} {m : Ev} (hm : l[i]? = some m) (hk : m.kind = 3) : ∀ d e, l[i + d + 1]? = some e → e.shard = m.shard → m.time ≤ before l (i + d + 1)
  | 0, e, he, hs => by
    have hn : newAt l (i + 1) = false := by simp only [newAt, he, hm, Option.map_some, hs]; simp
    show m.time ≤ before l (i + 1)
    unfold before
    rw [hn, if_neg (by simp)]
    simp only [promTo, hm]
    exact promise_mark _ hk
  | d + 1, e, he, hs => by
    have hlt := (List.getElem?_eq_some_iff.1 he).1
    have hg := List.getElem?_eq_getElem (show i + d + 1 < l.length by omega)
    generalize l[i + d + 1] = x at hg
    have l1 := asc_shard ha hm hg (by omega)
    have l2 := asc_shard ha hg he (by omega)
    rw [hs] at l2
    have hx : x.shard = m.shard := by
      have := cmpS_anti m.shard x.shard
      exact (cmpS_zero (a := m.shard) (b := x.shard) (by omega)).symm
    have ih := prom_keep ha hm hk d x hg hx
    have hn : newAt l (i + d + 1 + 1) = false := by
      have he' : l[i + d + 1 + 1]? = some e := he
      simp only [newAt, he', hg, Option.map_some, hs, hx]; simp
    show m.time ≤ before l (i + d + 1 + 1)
    unfold before
    rw [hn, if_neg (by simp)]
    simp only [promTo, hg]
    exact Int.le_trans ih (promise_ge _ _)
theorem mark_before {l : List Ev} (ha : Asc l) (hb : brokenTo l l.length = []) {m e : Ev} (hm : m ∈ l) (he : e ∈ l) (hk : m.kind = 3) (hs : e.shard = m.shard) (hn : m.number < e.number) : m.time ≤ e.time := by
  obtain ⟨i, hi, rfl⟩ := List.getElem_of_mem hm
  obtain ⟨j, hj, rfl⟩ := List.getElem_of_mem he
  have hij : i < j := by
    rcases Nat.lt_trichotomy i j with h | h | h
    · exact h
    · subst h; omega
    · exfalso
      have := (ord_neg _ _).1 (List.pairwise_iff_getElem.1 ha j i hj hi h)
      rw [hs, cmpS_self] at this
      omega
  obtain ⟨d, rfl⟩ : ∃ d, j = i + d + 1 := ⟨j - i - 1, by omega⟩
  have h1 := prom_keep ha (List.getElem?_eq_getElem hi) hk d _ (List.getElem?_eq_getElem hj) hs
  have h2 := broken_none l.length hb _ _ hj (List.getElem?_eq_getElem hj)
  omega
theorem shard_asc {l : List Ev} (ha : Asc l) (s : ByteArray) : (l.filter fun e => decide (e.shard = s)).Pairwise (fun a b => a.number < b.number) := by
  have h1 : (l.filter fun e => decide (e.shard = s)).Pairwise (fun a b => ordE a b < 0) := ha.filter _
  refine List.Pairwise.imp_of_mem (fun {a b} hma hmb h => ?_) h1
  have e1 : a.shard = s := by simpa using (List.mem_filter.1 hma).2
  have e2 : b.shard = s := by simpa using (List.mem_filter.1 hmb).2
  have := (ord_neg a b).1 h
  rw [e1, e2, cmpS_self] at this
  omega
/-- THE LAW, first half: an event of all before the time of its shard was there. -/
theorem known_there {l more M : List Ev} (hj : JoinSpec l more M 0) (hb : brokL M = []) {e : Ev} (he : e ∈ M) (ht : 0 ≤ e.time) (hlt : e.time < kOf e.shard 0 0 l) (hpos : ∀ x ∈ l, 1 ≤ x.number) (hpos' : 1 ≤ e.number) : e ∈ l := by
  obtain ⟨h1, h2, h3, h4, h5⟩ := hj.ok
  have hb' : brokenTo M M.length = [] := by unfold brokL at hb; rw [if_pos (checkL_of hj)] at hb; exact hb
  rw [kOf_kF] at hlt
  obtain ⟨m, hm, k1, k2, k3, k4⟩ := kF_mark (l.filter fun x => decide (x.shard = e.shard)) 0 0 (by omega)
  obtain ⟨hml, hms⟩ := List.mem_filter.1 hm
  have hms' : m.shard = e.shard := by simpa using hms
  by_cases hn : e.number ≤ m.number
  · obtain ⟨x, hx, hxn⟩ := k4 e.number (by omega) hn
    obtain ⟨hxl, hxs⟩ := List.mem_filter.1 hx
    have hxs' : x.shard = e.shard := by simpa using hxs
    have hxM : x ∈ M := (h4 x).2 (List.mem_append_left _ hxl)
    have := asc_noClash h3 e he x hxM (ordE_zero.2 ⟨hxs'.symm, hxn.symm⟩)
    rw [this]; exact hxl
  · have := mark_before h3 hb' ((h4 m).2 (List.mem_append_left _ hml)) he k1 hms'.symm (by omega)
    omega
/-- second half: more is known -/
theorem known_more {l more M : List Ev} (hl : Asc l) (hj : JoinSpec l more M 0) (s : ByteArray) (hpos : ∀ x ∈ M, 1 ≤ x.number) : kOf s 0 0 l ≤ kOf s 0 0 M := by
  obtain ⟨h1, h2, h3, h4, h5⟩ := hj.ok
  rw [kOf_kF, kOf_kF]
  refine kF_mono _ _ 0 0 0 (by omega) (shard_asc hl s) (shard_asc h3 s) (fun x hx => ?_) (fun x hx => ?_)
  · obtain ⟨a, b⟩ := List.mem_filter.1 hx
    exact List.mem_filter.2 ⟨(h4 x).2 (List.mem_append_left _ a), b⟩
  · have := hpos x (List.mem_filter.1 hx).1; omega
end Go.Proofs.YtbbfdkjamjmbmaaDoor
