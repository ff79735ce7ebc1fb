/-
  A part of the proof that the law FnExactSameAdjustments holds (abstract machine, walks, or the join). No conditions.
-/
import Derived.Test.YtdghdngpeidmnaaAmDraw
/-! One instruction comes to the front; every order of a region. -/
namespace Go.Am
set_option linter.unusedVariables false
set_option linter.unusedSimpArgs false

/-- What an instruction with a guard comes to. -/
def AI.now (fr : Fr) (i : AI) : Option AI :=
  match i.g with
  | none => some i
  | some (s, want) => match fr s with
    | .b x => some (if x = want then i else ⟨i.d, .mv (.c .top), none, []⟩)
    | _ => none

theorem awpI_now {P : Program} {i : AI} {tok : Nat} {σ : St} {K : St → Prop} : awpI P i tok σ K ↔ ∃ j, i.now σ.fr = some j ∧ awpX P j tok σ K := by
  unfold awpI AI.now
  cases hg : i.g with
  | none => simp
  | some p =>
    obtain ⟨s, want⟩ := p
    simp only
    cases hv : σ.fr s with
    | b x =>
      simp only [Option.some.injEq, exists_eq_left']
      by_cases e : x = want
      · rw [if_pos e, if_pos e]
      · rw [if_neg e, if_neg e]
        simp [awpX, AOp.run, AO.ev]
    | _ => simp

theorem now_cases {fr : Fr} {i j : AI} (h : i.now fr = some j) : j = i ∨ j = ⟨i.d, .mv (.c .top), none, []⟩ := by
  unfold AI.now at h
  split at h
  · cases h; exact .inl rfl
  · split at h
    · rename_i s want _ _ x _
      cases h
      by_cases e : x = want
      · rw [if_pos e]; exact .inl rfl
      · rw [if_neg e]; exact .inr rfl
    · cases h

theorem now_congr {fr fr' : Fr} {i : AI} (h : ∀ s ∈ gslot i, fr s = fr' s) : i.now fr = i.now fr' := by
  unfold AI.now
  unfold gslot at h
  split
  · rfl
  · rename_i s want hg
    rw [hg] at h
    rw [h s (by simp)]

theorem now_past {fr : Fr} {i x j : AI} (h : i.now fr = some j) : (i.past x).now fr = some (j.past x) := by
  have hg : (i.past x).g = i.g := rfl
  unfold AI.now at *
  rw [hg]
  cases e : i.g with
  | none => rw [e] at h; cases h; rfl
  | some p =>
    obtain ⟨s, want⟩ := p
    rw [e] at h
    simp only at h ⊢
    cases hv : fr s with
    | b y =>
      rw [hv] at h
      simp only [Option.some.injEq] at h ⊢
      subst h
      by_cases e : y = want
      · rw [if_pos e, if_pos e]
      · rw [if_neg e, if_neg e]; rfl
    | _ => rw [hv] at h; cases h

theorem run_none {fr : Fr} {H H1 : Heap} {tok : Nat} {op : AOp} {v : AV} (h : op.run fr H tok = some (v, H1)) : ∀ t, t ≠ tok → H t = none → H1 t = none := by
  intro t ht hn
  cases hc : op.cls with
  | pure => rw [(run_pure hc h).1]; exact hn
  | load => rw [(run_load hc h).1]; exact hn
  | alloc =>
    obtain ⟨b, e, _⟩ := run_alloc hc h
    rw [e]; simp only [Heap.upd]; rw [if_neg ht]; exact hn
  | pc => cases op <;> first | (simp [AOp.cls] at hc; done) | (simp [AOp.run] at h; done)
  | raw => cases op <;> first | (simp [AOp.cls] at hc; done) | (simp [AOp.run] at h; done)
  | wr =>
    cases op <;> simp only [AOp.cls] at hc <;> first | (cases hc; done) | (split at hc <;> cases hc; done) | skip
    all_goals simp only [AOp.run] at h
    case st s a x =>
      split at h
      · rename_i t' i o ha
        split at h
        · rename_i z es hH
          split at h
          · rename_i e he
            split at h
            · rename_i hh
              cases h
              have : t ≠ t' := by intro e; subst e; rw [hn] at hH; cases hH
              simp only [Heap.upd]; rw [if_neg this]; exact hn
            · cases h
          · cases h
        · cases h
      · cases h
    case app sz b x y =>
      split at h
      · cases h
      · split at h
        · split at h
          · split at h
            · cases h; exact hn
            · split at h
              · cases h; simp only [Heap.upd]; rw [if_neg ht]; exact hn
              · cases h
          · rename_i t' n hx
            split at h
            · split at h
              · split at h
                · cases h; exact hn
                · cases h
                  simp only [Heap.upd, Heap.off]; rw [if_neg ht]; split
                  · rfl
                  · exact hn
              · cases h
            · cases h
          · cases h
        · cases h

/-- What is behind an instruction: the frame, and what has not been made. -/
theorem awpX_mono {P : Program} {j : AI} {tok : Nat} {σ : St} {K K' : St → Prop} (hk : ∀ σ1, (∃ v, σ1.fr = σ.fr.put j.d v) → (j.op.cls ≠ .raw → ∀ t, t ≠ tok → σ.H t = none → σ1.H t = none) → K σ1 → K' σ1) (h : awpX P j tok σ K) : awpX P j tok σ K' := by
  by_cases hr : j.op.cls = .raw
  · obtain ⟨f, args, e, hm⟩ := (awpX_call (r := true) hr).1 h
    refine (awpX_call (r := true) hr).2 ⟨f, args, e, MC.mono hm fun v H' n' hq => ⟨hq.1, hk _ ⟨v, rfl⟩ (fun hx => absurd hr hx) hq.2⟩⟩
  · obtain ⟨v, H1, c, hd, hkk⟩ := (awpX_does hr).1 h
    refine (awpX_does hr).2 ⟨v, H1, c, hd, hk _ ⟨v, rfl⟩ (fun _ t ht hn => ?_) hkk⟩
    cases hd with
    | run _ k1 _ _ => exact run_none k1 t ht hn
    | call _ _ _ _ _ _ _ _ _ _ _ _ hH => simp only [hH]; exact hn

theorem awpI_mono {P : Program} {j : AI} {tok : Nat} {σ : St} {K K' : St → Prop} (hr : j.op.cls ≠ .raw) (hk : ∀ σ1, (∃ v, σ1.fr = σ.fr.put j.d v) → (∀ t, t ≠ tok → σ.H t = none → σ1.H t = none) → K σ1 → K' σ1) (h : awpI P j tok σ K) : awpI P j tok σ K' := by
  obtain ⟨k, e, hx⟩ := awpI_now.1 h
  refine awpI_now.2 ⟨k, e, awpX_mono (fun σ1 h1 h2 h3 => hk σ1 ?_ (h2 ?_) h3) hx⟩
  · rcases now_cases e with rfl | rfl <;> exact h1
  · rcases now_cases e with rfl | rfl
    · exact hr
    · simp [AOp.cls]

theorem okPair_raw {x i : AI} (h : okPair x i = true) : x.op.cls ≠ .raw := by
  intro e
  simp [okPair, clsOk, e] at h

theorem clsOk_nopL {x i : AI} {d : Option Nat} : clsOk ⟨d, .mv (.c .top), none, []⟩ i = true := by simp [clsOk, AOp.cls]
theorem clsOk_nopR {x : AI} (h : x.op.cls ≠ .raw) {d : Option Nat} : clsOk x ⟨d, .mv (.c .top), none, []⟩ = true := by
  cases e : x.op.cls <;> simp_all [clsOk, AOp.cls]

/-- Two instructions with their guards change places. -/
theorem swapI {P : Program} {x i : AI} {tx ti : Nat} {σ : St} {K : St → Prop} (ok : okPair x i = true) (hne : tx ≠ ti) (hti : σ.H ti = none) (h : awpI P x tx σ fun σ1 => awpI P i ti σ1 K) :
    awpI P (i.past x) ti σ fun σ1 => awpI P x tx σ1 K := by
  have hxr := okPair_raw ok
  simp only [okPair, Bool.and_eq_true] at ok
  obtain ⟨⟨⟨⟨c1, c2⟩, c3⟩, c4⟩, c5⟩ := ok
  obtain ⟨g1, s1⟩ := dstNot_append c2
  obtain ⟨g2, s2⟩ := dstNot_append c3
  obtain ⟨x', ex, hx⟩ := awpI_now.1 h
  have hx'r : x'.op.cls ≠ .raw := by
    rcases now_cases ex with rfl | rfl
    · exact hxr
    · simp [AOp.cls]
  have dx : x'.d = x.d := by rcases now_cases ex with rfl | rfl <;> rfl
  have hi' : ∃ i', i.now σ.fr = some i' ∧ awpX P x' tx σ fun σ1 => awpX P i' ti σ1 K := by
    obtain ⟨v, H1, c, hd, hk⟩ := (awpX_does hx'r).1 hx
    obtain ⟨i', ei, hi⟩ := awpI_now.1 hk
    refine ⟨i', ?_, (awpX_does hx'r).2 ⟨v, H1, c, hd, hi⟩⟩
    rw [← ei]
    refine now_congr fun s hs => ?_
    rw [dx]
    exact (put_other g1 s hs).symm
  obtain ⟨i', ei, hxi⟩ := hi'
  have di : i'.d = i.d := by rcases now_cases ei with rfl | rfl <;> rfl
  have sw := swapX (x := x') (i := i') (tx := tx) (ti := ti) (σ := σ) (K := K) ?_ ?_ ?_ ?_ ?_ hne hti hxi
  · refine awpI_now.2 ⟨i'.past x, now_past ei, ?_⟩
    have e : i'.past x' = i'.past x := by unfold AI.past; rw [dx]
    rw [e] at sw
    refine awpX_mono (fun σ1 h1 _ h3 => ?_) sw
    refine awpI_now.2 ⟨x', ?_, h3⟩
    rw [← ex]
    obtain ⟨v, hv⟩ := h1
    rw [hv]
    refine now_congr fun s hs => ?_
    have : (i'.past x).d = i.d := di
    rw [this]
    exact put_other g2 s hs
  · rcases now_cases ex with e1 | e1 <;> rcases now_cases ei with e2 | e2 <;> rw [e1, e2]
    · exact c1
    · exact clsOk_nopR hxr
    · exact clsOk_nopL (x := x)
    · exact clsOk_nopL (x := x)
  · rw [dx]; rcases now_cases ei with e2 | e2 <;> rw [e2]
    · exact s1
    · cases x.d <;> rfl
  · rw [di]; rcases now_cases ex with e2 | e2 <;> rw [e2]
    · exact s2
    · cases i.d <;> rfl
  · rw [dx, di]; exact c4
  · rw [di]; rcases now_cases ex with e2 | e2 <;> rw [e2]
    · exact c5
    · cases i.d <;> rfl

/-- The instructions in the order of a list; each has its own token. -/
def awpD (P : Program) (n0 : Nat) : List (Nat × AI) → St → (St → Prop) → Prop
  | [], σ, K => K σ
  | (k, i) :: r, σ, K => awpI P i (n0 + k) σ fun σ' => awpD P n0 r σ' K

/-- The instruction behind all before it, and may it pass them? -/
def passAll : List (Nat × AI) → AI → AI × Bool
  | [], i => (i, true)
  | (_, x) :: r, i => ((passAll r i).1.past x, (passAll r i).2 && okPair x (passAll r i).1)

theorem awpD_front {P : Program} {n0 : Nat} {K : St → Prop} {ki : Nat} {i : AI} {post : List (Nat × AI)} : ∀ (pre : List (Nat × AI)) (σ : St), (passAll pre i).2 = true → (∀ p ∈ pre, p.1 ≠ ki) → σ.H (n0 + ki) = none →
    awpD P n0 (pre ++ (ki, i) :: post) σ K → awpI P (passAll pre i).1 (n0 + ki) σ fun σ1 => awpD P n0 (pre ++ post) σ1 K
  | [], σ, _, _, _, h => h
  | (k, x) :: r, σ, hp, hne, hti, h => by
    simp only [passAll, Bool.and_eq_true] at hp
    have hk : k ≠ ki := hne (k, x) (by simp)
    refine swapI hp.2 (tx := n0 + k) (by omega) hti ?_
    refine awpI_mono (okPair_raw hp.2) (fun σ1 _ h2 h3 => ?_) (show awpI P x (n0 + k) σ fun σ' => awpD P n0 (r ++ (ki, i) :: post) σ' K from h)
    exact awpD_front r σ1 hp.1 (fun p hp' => hne p (List.mem_cons_of_mem _ hp')) (h2 _ (by omega) hti) h3

theorem passAll_same : ∀ (pre : List (Nat × AI)) (i : AI), (passAll pre i).1.d = i.d ∧ (passAll pre i).1.op = i.op ∧ (passAll pre i).1.g = i.g ∧ ∀ s ∈ (passAll pre i).1.fl, s ∈ i.fl
  | [], i => ⟨rfl, rfl, rfl, fun s hs => hs⟩
  | (k, x) :: r, i => by
    obtain ⟨h1, h2, h3, h4⟩ := passAll_same r i
    refine ⟨h1, h2, h3, fun s hs => ?_⟩
    simp only [passAll, AI.past, List.mem_filter] at hs
    exact h4 s hs.1

theorem clsOk_more {x i j : AI} (ho : j.op = i.op) (hf : ∀ s ∈ i.fl, s ∈ j.fl) (ha : i.op.cls = .alloc → j.fl = []) (h : clsOk x i = true) : clsOk x j = true := by
  unfold clsOk at *
  rw [ho]
  cases hx : x.op.cls <;> cases hi : i.op.cls <;> simp only [hx, hi] at h ⊢
  all_goals first
    | exact h
    | (simp only [ha hi, List.isEmpty_nil, Bool.and_true]; done)
    | skip
  all_goals first
    | (simp only [Bool.and_eq_true] at h; simp only [ha hi, List.isEmpty_nil, Bool.and_true]; exact h.1)
    | (split at h <;> simp_all; done)

theorem passAll_sub {i : AI} (ha : i.op.cls = .alloc → i.fl = []) : ∀ {pre pre' : List (Nat × AI)}, pre'.Sublist pre → (passAll pre i).2 = true → (passAll pre' i).2 = true ∧ ∀ s ∈ (passAll pre i).1.fl, s ∈ (passAll pre' i).1.fl := by
  intro pre pre' hs
  induction hs with
  | slnil => intro _; exact ⟨rfl, fun s hs => hs⟩
  | cons p hs ih =>
    rename_i l1 l2
    intro hp
    obtain ⟨k, x⟩ := p
    simp only [passAll, Bool.and_eq_true] at hp
    obtain ⟨h1, h2⟩ := ih hp.1
    refine ⟨h1, fun s hs => h2 s ?_⟩
    simp only [passAll, AI.past, List.mem_filter] at hs
    exact hs.1
  | cons_cons p hs ih =>
    rename_i l1 l2
    intro hp
    obtain ⟨k, x⟩ := p
    simp only [passAll, Bool.and_eq_true] at hp ⊢
    obtain ⟨h1, h2⟩ := ih hp.1
    refine ⟨⟨h1, ?_⟩, fun s hs => ?_⟩
    · have hok := hp.2
      obtain ⟨a1, a2, a3, a4⟩ := passAll_same l1 i
      obtain ⟨b1, b2, b3, b4⟩ := passAll_same l2 i
      simp only [okPair, Bool.and_eq_true] at hok ⊢
      obtain ⟨⟨⟨⟨c1, c2⟩, c3⟩, c4⟩, c5⟩ := hok
      rw [b1] at c3 c4 c5
      rw [b2] at c2
      have hg : gslot (passAll l2 i).1 = gslot i := by unfold gslot; rw [b3]
      have hg1 : gslot (passAll l1 i).1 = gslot i := by unfold gslot; rw [a3]
      rw [hg] at c2
      refine ⟨⟨⟨⟨clsOk_more (by rw [a2, b2]) h2 ?_ c1, ?_⟩, ?_⟩, ?_⟩, ?_⟩
      · rw [b2]
        intro hcl
        have := ha hcl
        cases hf : (passAll l1 i).1.fl with
        | nil => rfl
        | cons s t => have := a4 s (by rw [hf]; simp); simp_all
      · rw [hg1, a2]; exact c2
      · rw [a1]; exact c3
      · rw [a1]; exact c4
      · rw [a1]; exact c5
    · simp only [AI.past, List.mem_filter] at hs ⊢
      exact ⟨h2 s hs.1, hs.2⟩

end Go.Am
