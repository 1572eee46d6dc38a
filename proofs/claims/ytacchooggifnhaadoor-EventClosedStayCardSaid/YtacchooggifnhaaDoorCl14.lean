/- To join logs has no order, and to join one twice makes no difference: plainly. What is known of a shard: plainly. What comes later, without a broken promise, has no event before the time up to which all was known: plainly. What is known of all shards is the least of what is known of each. What was known, said of the joined log: plain ends for the law's walk. Plain: subjects that are closed stay as they are. No program stands in it. -/
import Derived.Test.YtacchooggifnhaaDoorCl13
import Derived.Test.YtacchooggifnhaaDoorCl02
import Derived.Test.YtacchooggifnhaaDoorCl90
import Derived.Test.YtacchooggifnhaaDoorCl09
namespace Go.Proofs.YtacchooggifnhaaDoor
/-- The shards of a list in order: each once, in order. -/
theorem asc_shard {M : List Ev} (h : Asc M) {i j : Nat} {x y : Ev} (hx : M[i]? = some x) (hy : M[j]? = some y) (hij : i < j) : cmpS x.shard y.shard ≤ 0 := by
  obtain ⟨h1, rfl⟩ := List.getElem?_eq_some_iff.1 hx
  obtain ⟨h2, rfl⟩ := List.getElem?_eq_some_iff.1 hy
  have := (ord_neg _ _).1 (List.pairwise_iff_getElem.1 h i j h1 h2 hij)
  omega
/-- What a join that went well says. -/
theorem JoinSpec.ok {a b R : List Ev} (h : JoinSpec a b R 0) : checkL a = 0 ∧ checkL b = 0 ∧ Asc R ∧ (∀ x, x ∈ R ↔ x ∈ a ++ b) ∧ ¬ (20000 < R.length ∨ 50 < (shardsOf R).length) := by
  rcases h with ⟨h1, _, h2⟩ | ⟨_, h1, _, h2⟩ | ⟨_, _, _, _, h⟩ | ⟨h1, h2, M, h3, h4, ⟨_, _, h5⟩ | ⟨h5, rfl, _⟩⟩
  · exact absurd h2.symm h1
  · exact absurd h2.symm h1
  · cases h
  · cases h5
  · exact ⟨h1, h2, h3, h4, h5⟩
theorem JoinSpec.bad {a b R : List Ev} {F : Int} (h : JoinSpec a b R F) (hF : F ≠ 0) : R = [] := by
  rcases h with ⟨_, h, _⟩ | ⟨_, _, h, _⟩ | ⟨_, _, _, h, _⟩ | ⟨_, _, M, _, _, ⟨_, h, _⟩ | ⟨_, _, h⟩⟩
  · exact h
  · exact h
  · exact h
  · exact h
  · exact absurd h hF
theorem JoinSpec.mk {a b M R : List Ev} {F : Int} (h1 : checkL a = 0) (h2 : checkL b = 0) (h3 : Asc M) (h4 : ∀ x, x ∈ M ↔ x ∈ a ++ b) (h5 : ¬ (20000 < M.length ∨ 50 < (shardsOf M).length)) (h : JoinSpec a b R F) : R = M ∧ F = 0 :=
  h.unique (.inr (.inr (.inr ⟨h1, h2, M, h3, h4, .inr ⟨h5, rfl, rfl⟩⟩)))
theorem checkL_of {a b R : List Ev} (h : JoinSpec a b R 0) : checkL R = 0 := by
  obtain ⟨h1, h2, h3, h4, h5⟩ := h.ok
  rw [checkL_asc h3 (fun x hx => (List.mem_append.1 ((h4 x).1 hx)).elim (checkL_all h1 x) (checkL_all h2 x)), if_neg h5]
end Go.Proofs.YtacchooggifnhaaDoor
namespace Go.Proofs.YtacchooggifnhaaDoor
/-- over the events of the shard -/
def kF : Int → Int → List Ev → Int
  | out, _, [] => out
  | out, n, e :: r => if e.number = n + 1 then kF (if e.kind = 3 then mx out e.time else out) (n + 1) r else out
theorem kOf_kF (s : ByteArray) : ∀ (l : List Ev) (out n : Int), kOf s out n l = kF out n (l.filter fun e => decide (e.shard = s))
  | [], _, _ => rfl
  | e :: r, out, n => by
    unfold kOf
    by_cases h : e.shard = s
    · rw [if_pos h, List.filter_cons_of_pos (by simp [h]), kF]
      by_cases h2 : e.number = n + 1
      · rw [if_pos h2, if_pos h2, kOf_kF s r]
      · rw [if_neg h2, if_neg h2]
    · rw [if_neg h, List.filter_cons_of_neg (by simp [h]), kOf_kF s r]
theorem mx_le (a b : Int) : a ≤ mx a b := by unfold mx; split <;> omega
theorem kF_ge : ∀ (l : List Ev) (out n : Int), out ≤ kF out n l
  | [], _, _ => by unfold kF; omega
  | e :: r, out, n => by
    unfold kF
    split
    · refine Int.le_trans ?_ (kF_ge r _ _)
      split
      · exact mx_le _ _
      · omega
    · omega
/-- a mark, and all numbers up to it -/
theorem kF_mark : ∀ (l : List Ev) (out n : Int), out < kF out n l → ∃ m ∈ l, m.kind = 3 ∧ m.time = kF out n l ∧ n < m.number ∧ ∀ i : Int, n < i → i ≤ m.number → ∃ e ∈ l, e.number = i
  | [], out, n, h => by unfold kF at h; omega
  | e :: r, out, n, h => by
    unfold kF at h ⊢
    by_cases h1 : e.number = n + 1
    · rw [if_pos h1] at h ⊢
      by_cases h2 : (if e.kind = 3 then mx out e.time else out) < kF (if e.kind = 3 then mx out e.time else out) (n + 1) r
      · obtain ⟨m, hm, k1, k2, k3, k4⟩ := kF_mark r _ _ h2
        refine ⟨m, by simp [hm], k1, k2, by omega, fun i hi hle => ?_⟩
        by_cases hi1 : i = n + 1
        · exact ⟨e, by simp, by omega⟩
        · obtain ⟨x, hx, hxi⟩ := k4 i (by omega) hle
          exact ⟨x, by simp [hx], hxi⟩
      · have hge := kF_ge r (if e.kind = 3 then mx out e.time else out) (n + 1)
        have heq : kF (if e.kind = 3 then mx out e.time else out) (n + 1) r = (if e.kind = 3 then mx out e.time else out) := by omega
        rw [heq] at h ⊢
        by_cases h3 : e.kind = 3
        · rw [if_pos h3] at h ⊢
          have h4 : mx out e.time = e.time := by unfold mx at h ⊢; split at h <;> simp_all
          exact ⟨e, by simp, h3, by rw [h4], by omega, fun i hi hle => ⟨e, by simp, by omega⟩⟩
        · rw [if_neg h3] at h; omega
    · rw [if_neg h1] at h; omega
/-- more events, more is known -/
theorem kF_mono : ∀ (F G : List Ev) (out out' n : Int), out ≤ out' → F.Pairwise (fun a b => a.number < b.number) → G.Pairwise (fun a b => a.number < b.number) → (∀ x ∈ F, x ∈ G) → (∀ x ∈ G, n < x.number) → kF out n F ≤ kF out' n G
  | [], G, out, out', n, ho, _, _, _, _ => by
    have := kF_ge G out' n
    show out ≤ kF out' n G
    omega
  | e :: r, [], out, out', n, ho, _, _, hs, _ => by have := hs e (by simp); cases this
  | e :: r, g :: G, out, out', n, ho, hF, hG, hs, hn => by
    obtain ⟨f1, f2⟩ := List.pairwise_cons.1 hF
    obtain ⟨g1, g2⟩ := List.pairwise_cons.1 hG
    have hge := kF_ge (g :: G) out' n
    by_cases h1 : e.number = n + 1
    · have heg : g = e := by
        rcases List.mem_cons.1 (hs e (by simp)) with h | h
        · exact h.symm
        · have := g1 e h; have := hn g (by simp); omega
      subst heg
      unfold kF
      rw [if_pos h1, if_pos h1]
      refine kF_mono r G _ _ _ ?_ f2 g2 (fun x hx => ?_) (fun x hx => by have := g1 x hx; omega)
      · split
        · unfold mx; split <;> split <;> omega
        · exact ho
      · rcases List.mem_cons.1 (hs x (by simp [hx])) with h | h
        · subst h; have := f1 x hx; omega
        · exact h
    · have : kF out n (e :: r) = out := by unfold kF; rw [if_neg h1]
      rw [this]; omega
end Go.Proofs.YtacchooggifnhaaDoor
namespace Go.Proofs.YtacchooggifnhaaDoor
theorem broken_none {l : List Ev} : ∀ n, brokenTo l n = [] → ∀ k e, k < n → l[k]? = some e → ¬ e.time < before l k
  | 0, _, k, _, hk, _ => by omega
  | n + 1, h, k, e, hk, he => by
    unfold brokenTo at h
    obtain ⟨h1, h2⟩ := List.append_eq_nil_iff.1 h
    by_cases hkn : k = n
    · subst hkn
      rw [he] at h2
      simp only at h2
      intro hlt
      rw [if_pos hlt] at h2; cases h2
    · exact broken_none n h1 k e (by omega) he
theorem promise_ge (pr : Int) (e : Ev) : pr ≤ promise pr e := by unfold promise; split <;> (try split) <;> omega
theorem promise_mark (pr : Int) {e : Ev} (h : e.kind = 3) : e.time ≤ promise pr e := by unfold promise; rw [if_pos h]; split <;> omega
/-- a mark's promise stands as long as the shard goes on -/
theorem prom_keep {l : List Ev} (ha : Asc l) {i : Nat} {m : Ev} (hm : l[i]? = some m) (hk : m.kind = 3) : ∀ d e, l[i + d + 1]? = some e → e.shard = m.shard → m.time ≤ before l (i + d + 1)
  | 0, e, he, hs => by
    have hn : newAt l (i + 1) = false := by simp only [newAt, he, hm, Option.map_some, hs]; simp
    show m.time ≤ before l (i + 1)
    unfold before
    rw [hn, if_neg (by simp)]
    simp only [promTo, hm]
    exact promise_mark _ hk
  | d + 1, e, he, hs => by
    have hlt := (List.getElem?_eq_some_iff.1 he).1
    have hg := List.getElem?_eq_getElem (show i + d + 1 < l.length by omega)
    generalize l[i + d + 1] = x at hg
    have l1 := asc_shard ha hm hg (by omega)
    have l2 := asc_shard ha hg he (by omega)
    rw [hs] at l2
    have hx : x.shard = m.shard := by
      have := cmpS_anti m.shard x.shard
      exact (cmpS_zero (a := m.shard) (b := x.shard) (by omega)).symm
    have ih := prom_keep ha hm hk d x hg hx
    have hn : newAt l (i + d + 1 + 1) = false := by
      have he' : l[i + d + 1 + 1]? = some e := he
      simp only [newAt, he', hg, Option.map_some, hs, hx]; simp
    show m.time ≤ before l (i + d + 1 + 1)
    unfold before
    rw [hn, if_neg (by simp)]
    simp only [promTo, hg]
    exact Int.le_trans ih (promise_ge _ _)
theorem mark_before {l : List Ev} (ha : Asc l) (hb : brokenTo l l.length = []) {m e : Ev} (hm : m ∈ l) (he : e ∈ l) (hk : m.kind = 3) (hs : e.shard = m.shard) (hn : m.number < e.number) : m.time ≤ e.time := by
  obtain ⟨i, hi, rfl⟩ := List.getElem_of_mem hm
  obtain ⟨j, hj, rfl⟩ := List.getElem_of_mem he
  have hij : i < j := by
    rcases Nat.lt_trichotomy i j with h | h | h
    · exact h
    · subst h; omega
    · exfalso
      have := (ord_neg _ _).1 (List.pairwise_iff_getElem.1 ha j i hj hi h)
      rw [hs, cmpS_self] at this
      omega
  obtain ⟨d, rfl⟩ : ∃ d, j = i + d + 1 := ⟨j - i - 1, by omega⟩
  have h1 := prom_keep ha (List.getElem?_eq_getElem hi) hk d _ (List.getElem?_eq_getElem hj) hs
  have h2 := broken_none l.length hb _ _ hj (List.getElem?_eq_getElem hj)
  omega
theorem shard_asc {l : List Ev} (ha : Asc l) (s : ByteArray) : (l.filter fun e => decide (e.shard = s)).Pairwise (fun a b => a.number < b.number) := by
  have h1 : (l.filter fun e => decide (e.shard = s)).Pairwise (fun a b => ordE a b < 0) := ha.filter _
  refine List.Pairwise.imp_of_mem (fun {a b} hma hmb h => ?_) h1
  have e1 : a.shard = s := by simpa using (List.mem_filter.1 hma).2
  have e2 : b.shard = s := by simpa using (List.mem_filter.1 hmb).2
  have := (ord_neg a b).1 h
  rw [e1, e2, cmpS_self] at this
  omega
/-- THE LAW, first half: an event of all before the time of its shard was there. -/
theorem known_there {l more M : List Ev} (hj : JoinSpec l more M 0) (hb : brokL M = []) {e : Ev} (he : e ∈ M) (ht : 0 ≤ e.time) (hlt : e.time < kOf e.shard 0 0 l) (_hpos : ∀ x ∈ l, 1 ≤ x.number) (hpos' : 1 ≤ e.number) : e ∈ l := by
  obtain ⟨h1, h2, h3, h4, h5⟩ := hj.ok
  have hb' : brokenTo M M.length = [] := by unfold brokL at hb; rw [if_pos (checkL_of hj)] at hb; exact hb
  rw [kOf_kF] at hlt
  obtain ⟨m, hm, k1, k2, k3, k4⟩ := kF_mark (l.filter fun x => decide (x.shard = e.shard)) 0 0 (by omega)
  obtain ⟨hml, hms⟩ := List.mem_filter.1 hm
  have hms' : m.shard = e.shard := by simpa using hms
  by_cases hn : e.number ≤ m.number
  · obtain ⟨x, hx, hxn⟩ := k4 e.number (by omega) hn
    obtain ⟨hxl, hxs⟩ := List.mem_filter.1 hx
    have hxs' : x.shard = e.shard := by simpa using hxs
    have hxM : x ∈ M := (h4 x).2 (List.mem_append_left _ hxl)
    have := asc_noClash h3 e he x hxM (ordE_zero.2 ⟨hxs'.symm, hxn.symm⟩)
    rw [this]; exact hxl
  · have := mark_before h3 hb' ((h4 m).2 (List.mem_append_left _ hml)) he k1 hms'.symm (by omega)
    omega
/-- second half: more is known -/
theorem known_more {l more M : List Ev} (hl : Asc l) (hj : JoinSpec l more M 0) (s : ByteArray) (hpos : ∀ x ∈ M, 1 ≤ x.number) : kOf s 0 0 l ≤ kOf s 0 0 M := by
  obtain ⟨h1, h2, h3, h4, h5⟩ := hj.ok
  rw [kOf_kF, kOf_kF]
  refine kF_mono _ _ 0 0 0 (by omega) (shard_asc hl s) (shard_asc h3 s) (fun x hx => ?_) (fun x hx => ?_)
  · obtain ⟨a, b⟩ := List.mem_filter.1 hx
    exact List.mem_filter.2 ⟨(h4 x).2 (List.mem_append_left _ a), b⟩
  · have := hpos x (List.mem_filter.1 hx).1; omega
end Go.Proofs.YtacchooggifnhaaDoor
namespace Go.Proofs.YtacchooggifnhaaDoor
theorem mn_le (a b : Int) : mn a b ≤ a ∧ mn a b ≤ b := by unfold mn; split <;> omega
theorem mn_mono {a b a' b' : Int} (h : a ≤ a') (k : b ≤ b') : mn a b ≤ mn a' b' := by unfold mn; split <;> split <;> omega
theorem minL_le_o (f : ByteArray → Int) : ∀ (L : List ByteArray) (o : Int), minL f o L ≤ o
  | [], o => by unfold minL; omega
  | s :: r, o => by unfold minL; exact Int.le_trans (minL_le_o f r _) (mn_le _ _).1
theorem minL_le (f : ByteArray → Int) : ∀ (L : List ByteArray) (o : Int) (s : ByteArray), s ∈ L → minL f o L ≤ f s
  | [], _, _, h => by cases h
  | x :: r, o, s, h => by
    unfold minL
    rcases List.mem_cons.1 h with rfl | h
    · exact Int.le_trans (minL_le_o f r _) (mn_le _ _).2
    · exact minL_le f r _ s h
theorem minL_mono {f g : ByteArray → Int} (h : ∀ s, f s ≤ g s) : ∀ (L : List ByteArray) (o o' : Int), o ≤ o' → minL f o L ≤ minL g o' L
  | [], _, _, ho => by unfold minL; exact ho
  | x :: r, o, o', ho => by unfold minL; exact minL_mono h r _ _ (mn_mono ho (h x))
end Go.Proofs.YtacchooggifnhaaDoor
namespace Go.Proofs.YtacchooggifnhaaDoor
theorem scan_adj : ∀ (p : Option Ev) (l : List Ev), scanFrom p l = 0 → l.Pairwise (fun a b => ordE a b < 0) ∧ (∀ q, p = some q → ∀ x ∈ l, ordE q x < 0)
  | _, [], _ => ⟨List.Pairwise.nil, fun _ _ x hx => by cases hx⟩
  | p, e :: r, h => by
    unfold scanFrom at h
    by_cases hx : checkE e = 0
    · rw [if_neg (by simp [hx])] at h
      have h2 : scanFrom (some e) r = 0 := ite_eight _ _ h
      obtain ⟨i1, i2⟩ := scan_adj (some e) r h2
      refine ⟨List.Pairwise.cons (i2 e rfl) i1, fun q hq x hx => ?_⟩
      subst hq
      have hqe : ordE q e < 0 := by
        by_cases h3 : 0 ≤ ordE q e
        · exfalso; simp [h3] at h
        · omega
      rcases List.mem_cons.1 hx with rfl | hx
      · exact hqe
      · exact ordE_lt_trans hqe (i2 e rfl x hx)
    · rw [if_pos hx] at h; exact absurd h hx
theorem checkL_isAsc {l : List Ev} (h : checkL l = 0) : Asc l := by
  unfold checkL at h
  by_cases h1 : 20000 < l.length
  · rw [if_pos h1] at h; cases h
  · rw [if_neg h1] at h
    by_cases h2 : scanFrom none l = 0
    · exact (scan_adj none l h2).1
    · rw [if_pos h2] at h; exact absurd h h2
theorem checkE_pos {e : Ev} (h : checkE e = 0) : 1 ≤ e.number ∧ 0 ≤ e.time := by
  unfold checkE at h
  by_cases h1 : nameB e.shard.data.toList = false
  · rw [if_pos h1] at h; cases h
  rw [if_neg h1] at h
  by_cases h2 : withinB e.number 1 1000000000000 = false
  · rw [if_pos h2] at h; cases h
  rw [if_neg h2] at h
  by_cases h3 : withinB e.kind 1 3 = false
  · rw [if_pos h3] at h; cases h
  rw [if_neg h3] at h
  by_cases h4 : withinB e.time 0 4000000000 = false
  · rw [if_pos h4] at h; cases h
  simp [withinB] at h2 h4
  omega
theorem known_in {l more M : List Ev} {L : List ByteArray} {e : Ev} (hj : JoinSpec l more M 0) (hb : brokL M = []) (hs : ∀ x ∈ M, x.shard ∈ L) (he : e ∈ M) (ht : e.time < knownR l L) : e ∈ l := by
  obtain ⟨h1, h2, h3, h4, h5⟩ := hj.ok
  have hc : ∀ x ∈ M, checkE x = 0 := checkL_all (checkL_of hj)
  refine known_there hj hb he (checkE_pos (hc e he)).2 ?_ (fun x hx => (checkE_pos (checkL_all h1 x hx)).1) (checkE_pos (hc e he)).1
  have := minL_le (fun x => kOf x 0 0 l) L 4000000000 e.shard (hs e he)
  unfold knownR at ht
  exact Int.lt_of_lt_of_le ht this
theorem known_later {l more M : List Ev} {L : List ByteArray} (hj : JoinSpec l more M 0) : knownR l L ≤ knownR M L := by
  obtain ⟨h1, h2, h3, h4, h5⟩ := hj.ok
  exact minL_mono (fun s => known_more (checkL_isAsc h1) hj s (fun x hx => (checkE_pos (checkL_all (checkL_of hj) x hx)).1)) L _ _ (Int.le_refl _)
end Go.Proofs.YtacchooggifnhaaDoor
namespace Go.Proofs.YtacchooggifnhaaDoor
namespace Ex
/-- what the first exposures are -/
structure FirstIs (x : ByteArray) (L : List Ev) (st : Fst × Mix) : Prop where
  miss : ∀ key, look st.1 key = none → ∀ e ∈ L, isExp x e = true → e.key ≠ key
  hit : ∀ key o, look st.1 key = some o → (o ∈ L ∧ isExp x o = true ∧ o.key = key) ∧ ∀ e ∈ L, isExp x e = true → e.key = key → o.time ≤ e.time ∧ (mixB st.2 key = false → e.arm = o.arm)
theorem mixB_put (M : Mix) (k z : ByteArray) : mixB (putL M k true) z = if z = k then true else mixB M z := by
  unfold mixB
  rw [look_put]
  by_cases h : z = k
  · rw [if_pos h, if_pos h]; rfl
  · rw [if_neg h, if_neg h]
theorem FirstIs.step {x : ByteArray} {L : List Ev} {F : Fst} {M : Mix} (h : FirstIs x L (F, M)) (e : Ev) : FirstIs x (L ++ [e]) (stepX x (F, M) e) := by
  by_cases hx : isExp x e = true
  · cases hl : look F e.key with
    | none =>
      have hst : stepX x (F, M) e = (putL F e.key e, M) := by unfold stepX; rw [if_pos hx]; simp only [hl]
      rw [hst]
      refine ⟨fun key hk e' he' hx' => ?_, fun key o hk => ?_⟩
      · simp only [look_put] at hk
        by_cases hkk : key = e.key
        · rw [if_pos hkk] at hk; cases hk
        · rw [if_neg hkk] at hk
          rcases List.mem_append.1 he' with he' | he'
          · exact h.miss key hk e' he' hx'
          · obtain rfl := List.mem_singleton.1 he'
            exact fun e9 => hkk e9.symm
      · simp only [look_put] at hk
        by_cases hkk : key = e.key
        · rw [if_pos hkk] at hk
          injection hk with hk
          subst hk
          refine ⟨⟨by simp, hx, hkk.symm⟩, fun e' he' hx' hk' => ?_⟩
          rcases List.mem_append.1 he' with he' | he'
          · exact absurd (hk'.trans hkk) (h.miss e.key hl e' he' hx')
          · obtain rfl := List.mem_singleton.1 he'
            exact ⟨Int.le_refl _, fun _ => rfl⟩
        · rw [if_neg hkk] at hk
          obtain ⟨⟨a1, a2, a3⟩, a4⟩ := h.hit key o hk
          refine ⟨⟨List.mem_append_left _ a1, a2, a3⟩, fun e' he' hx' hk' => ?_⟩
          rcases List.mem_append.1 he' with he' | he'
          · exact a4 e' he' hx' hk'
          · obtain rfl := List.mem_singleton.1 he'
            exact absurd hk'.symm hkk
    | some p =>
      obtain ⟨F', hF⟩ : ∃ z, (if e.time < p.time then putL F e.key e else F) = z := ⟨_, rfl⟩
      obtain ⟨M', hM⟩ : ∃ z, (if p.arm ≠ e.arm then putL M e.key true else M) = z := ⟨_, rfl⟩
      have hst : stepX x (F, M) e = (F', M') := by rw [← hF, ← hM]; unfold stepX; rw [if_pos hx]; simp only [hl]
      have hlF : ∀ key, look F' key = if key = e.key then some (if e.time < p.time then e else p) else look F key := by
        intro key
        rw [← hF]
        by_cases ht : e.time < p.time
        · rw [if_pos ht, if_pos ht, look_put]
        · rw [if_neg ht, if_neg ht]
          by_cases hk : key = e.key
          · rw [if_pos hk, hk, hl]
          · rw [if_neg hk]
      have hlM : ∀ key, mixB M' key = if key = e.key ∧ p.arm ≠ e.arm then true else mixB M key := by
        intro key
        rw [← hM]
        by_cases ha : p.arm ≠ e.arm
        · rw [if_pos ha, mixB_put]
          by_cases hk : key = e.key
          · rw [if_pos hk, if_pos ⟨hk, ha⟩]
          · rw [if_neg hk, if_neg (fun h => hk h.1)]
        · rw [if_neg ha, if_neg (fun h => ha h.2)]
      rw [hst]
      refine ⟨fun key hk e' he' hx' => ?_, fun key o hk => ?_⟩
      · simp only [hlF] at hk
        by_cases hkk : key = e.key
        · rw [if_pos hkk] at hk; cases hk
        · rw [if_neg hkk] at hk
          rcases List.mem_append.1 he' with he' | he'
          · exact h.miss key hk e' he' hx'
          · obtain rfl := List.mem_singleton.1 he'
            exact fun e9 => hkk e9.symm
      · simp only [hlF] at hk
        by_cases hkk : key = e.key
        · rw [if_pos hkk] at hk
          injection hk with hk
          obtain ⟨⟨a1, a2, a3⟩, a4⟩ := h.hit e.key p hl
          have ho : o ∈ L ++ [e] ∧ isExp x o = true ∧ o.key = key ∧ o.time ≤ p.time ∧ o.time ≤ e.time := by
            by_cases ht : e.time < p.time
            · rw [if_pos ht] at hk
              subst hk
              exact ⟨by simp, hx, hkk.symm, by omega, Int.le_refl _⟩
            · rw [if_neg ht] at hk
              subst hk
              exact ⟨List.mem_append_left _ a1, a2, a3.trans hkk.symm, Int.le_refl _, by omega⟩
          refine ⟨⟨ho.1, ho.2.1, ho.2.2.1⟩, fun e' he' hx' hk' => ?_⟩
          have harm : mixB M' key = false → mixB M e.key = false ∧ p.arm = e.arm ∧ o.arm = e.arm := by
            intro hm
            rw [hlM] at hm
            by_cases ha : p.arm = e.arm
            · rw [if_neg (fun h => h.2 ha)] at hm
              refine ⟨by rw [← hkk]; exact hm, ha, ?_⟩
              rw [← hk]
              by_cases ht : e.time < p.time
              · rw [if_pos ht]
              · rw [if_neg ht]; exact ha
            · rw [if_pos ⟨hkk, ha⟩] at hm; cases hm
          rcases List.mem_append.1 he' with he' | he'
          · obtain ⟨b1, b2⟩ := a4 e' he' hx' (hk'.trans hkk)
            refine ⟨by omega, fun hm => ?_⟩
            obtain ⟨c1, c2, c3⟩ := harm hm
            rw [b2 c1, c2, c3]
          · obtain rfl := List.mem_singleton.1 he'
            exact ⟨ho.2.2.2.2, fun hm => (harm hm).2.2.symm⟩
        · rw [if_neg hkk] at hk
          obtain ⟨⟨a1, a2, a3⟩, a4⟩ := h.hit key o hk
          refine ⟨⟨List.mem_append_left _ a1, a2, a3⟩, fun e' he' hx' hk' => ?_⟩
          have hmm : mixB M' key = mixB M key := by rw [hlM, if_neg (fun h => hkk h.1)]
          rcases List.mem_append.1 he' with he' | he'
          · obtain ⟨b1, b2⟩ := a4 e' he' hx' hk'
            exact ⟨b1, fun hm => b2 (hmm ▸ hm)⟩
          · obtain rfl := List.mem_singleton.1 he'
            exact absurd hk'.symm hkk
  · have hst : stepX x (F, M) e = (F, M) := by unfold stepX; rw [if_neg hx]
    rw [hst]
    refine ⟨fun key hk e' he' hx' => ?_, fun key o hk => ?_⟩
    · rcases List.mem_append.1 he' with he' | he'
      · exact h.miss key hk e' he' hx'
      · obtain rfl := List.mem_singleton.1 he'
        exact absurd hx' hx
    · obtain ⟨⟨a1, a2, a3⟩, a4⟩ := h.hit key o hk
      refine ⟨⟨List.mem_append_left _ a1, a2, a3⟩, fun e' he' hx' hk' => ?_⟩
      rcases List.mem_append.1 he' with he' | he'
      · exact a4 e' he' hx' hk'
      · obtain rfl := List.mem_singleton.1 he'
        exact absurd hx' hx
theorem firstIs (x : ByteArray) (l : List Ev) : FirstIs x l (expX x l) := by
  have key : ∀ k, k ≤ l.length → FirstIs x (l.take k) (expX x (l.take k)) := by
    intro k
    induction k with
    | zero => intro _; rw [List.take_zero]; exact ⟨(fun _ _ e he => by cases he), fun _ _ h => by simp [expX, look_nil] at h⟩
    | succ k ih =>
      intro hk
      have hg := List.getElem?_eq_getElem (show k < l.length by omega)
      rw [expX_take hg, List.take_succ_eq_append_getElem (by omega)]
      exact (ih (by omega)).step _
  have := key l.length (Nat.le_refl _)
  rwa [List.take_length] at this
/-- outcomes behind the window do not count -/
theorem fold_skip {to bf t : Int} (h0 : 0 ≤ to) : ∀ (L : List Ev) (s : Sbj), s.time = t → L.foldl (cntS 0 to bf) s = (L.filter (fun e => decide (e.time < t + to))).foldl (cntS 0 to bf) s
  | [], _, _ => rfl
  | e :: L, s, hs => by
    have ih := fold_skip (bf := bf) h0 L (cntS 0 to bf s e) ((cntS_same _ _ _ _ _).2.1.trans hs)
    by_cases h : e.time < t + to
    · rw [List.filter_cons_of_pos (by simpa using h)]
      exact ih
    · rw [List.filter_cons_of_neg (by simpa using h)]
      have h1 : cntS 0 to bf s e = s := cntS_out (by omega) (by omega)
      rw [List.foldl_cons, h1]
      rw [h1] at ih
      exact ih
theorem cnt_more {l M : List Ev} {T to bf : Int} {name : ByteArray} {s : Sbj} (ha : Asc l) (hb : Asc M) (hsub : ∀ e ∈ l, e ∈ M) (hin : ∀ e ∈ M, e.time < T → e ∈ l) (h0 : 0 ≤ to) (hT : s.time + to ≤ T) : cntX 0 to bf name M s = cntX 0 to bf name l s := by
  unfold cntX
  rw [fold_skip (bf := bf) h0 (outsK name M s.key) s rfl, fold_skip (bf := bf) h0 (outsK name l s.key) s rfl]
  congr 1
  refine asc_unique ((hb.filter _).filter _) ((ha.filter _).filter _) fun e => ?_
  rw [List.mem_filter, List.mem_filter]
  unfold outsK
  rw [List.mem_filter, List.mem_filter]
  constructor
  · rintro ⟨⟨h1, h2⟩, h3⟩
    have h4 : e.time < s.time + to := by simpa using h3
    exact ⟨⟨hin e h1 (by omega), h2⟩, h3⟩
  · rintro ⟨⟨h1, h2⟩, h3⟩
    exact ⟨⟨hsub e h1, h2⟩, h3⟩
theorem closed_stays {l more M : List Ev} {L : List ByteArray} {x name : ByteArray} {len bf : Int} {o o' : List Sbj} {ks ks' : List ByteArray} (hj : JoinSpec l more M 0) (hb : brokL M = []) (hs : ∀ e ∈ M, e.shard ∈ L)
    (hR : ExpR (expX x l).1 (expX x l).2 o ks) (hR' : ExpR (expX x M).1 (expX x M).2 o' ks') (hl : 1 ≤ len) {s : Sbj} (hm : s ∈ o.map (subS len bf name (knownR l L) l)) (hc : s.closed = true) (hk : s.key ∉ ks') :
    s ∈ o'.map (subS len bf name (knownR M L) M) := by
  obtain ⟨s0, h0, rfl⟩ := List.mem_map.1 hm
  obtain ⟨p, hp, hmx, rfl⟩ := (hR.2.1 s0).1 h0
  obtain ⟨key, e0⟩ := p
  obtain ⟨h1, h2, h3, h4, h5⟩ := hj.ok
  have hcl : (subjOf (key, e0)).time + len ≤ knownR l L := of_decide_eq_true hc
  have hkey : (subS len bf name (knownR l L) l (subjOf (key, e0))).key = key := (cntX_same 0 len bf name l (subjOf (key, e0))).1
  rw [hkey] at hk
  have htm : (subjOf (key, e0)).time = e0.time := rfl
  rw [htm] at hcl
  have hn := (first_ok x l).1
  have hl0 : look (expX x l).1 key = some e0 := look_mem hn hp
  obtain ⟨⟨a1, a2, a3⟩, a4⟩ := (firstIs x l).hit key e0 hl0
  have haM : e0 ∈ M := (h4 e0).2 (List.mem_append_left _ a1)
  cases hl1 : look (expX x M).1 key with
  | none => exact absurd a3 ((firstIs x M).miss key hl1 e0 haM a2)
  | some e1 =>
    obtain ⟨⟨b1, b2, b3⟩, b4⟩ := (firstIs x M).hit key e1 hl1
    have hmk : mixB (expX x M).2 key = false := by
      cases hq : mixB (expX x M).2 key with
      | false => rfl
      | true => exact absurd ((hR'.2.2.2 key).2 ⟨List.mem_map.2 ⟨_, look_some_mem hl1, rfl⟩, hq⟩) hk
    have ht1 : e1.time ≤ e0.time := (b4 e0 haM a2 a3).1
    have h6 : e1 ∈ l := known_in hj hb hs b1 (by omega)
    have ht2 : e0.time ≤ e1.time := (a4 e1 h6 b2 b3).1
    have ht : e1.time = e0.time := by omega
    have harm : e0.arm = e1.arm := (b4 e0 haM a2 a3).2 hmk
    have hsub : subjOf (key, e0) = subjOf (key, e1) := by unfold subjOf; simp only [ht, harm]
    refine List.mem_map.2 ⟨subjOf (key, e1), (hR'.2.1 _).2 ⟨(key, e1), look_some_mem hl1, hmk, rfl⟩, ?_⟩
    rw [← hsub]
    have hkl := known_later (L := L) hj
    unfold subS
    rw [cnt_more (T := knownR l L) (checkL_isAsc h1) h3 (fun e he => (h4 e).2 (List.mem_append_left _ he)) (fun e he ht => known_in hj hb hs he ht) (by omega) (by rw [htm]; omega)]
    rw [htm, decide_eq_true (show e0.time + len ≤ knownR M L by omega), decide_eq_true hcl]
end Ex
end Go.Proofs.YtacchooggifnhaaDoor
