/-
  A part of the proof that the law FnExactSameAdjustments holds (abstract machine, walks, or the join). No conditions.
-/
import Derived.Test.YtdghdngpeidmnaaAmCall
/-! Instructions of a region that draws its order: which may change places. -/
namespace Go.Am
set_option linter.unusedVariables false
set_option linter.unusedSimpArgs false

inductive Cls where
  | pure
  | load
  | alloc
  | wr
  | pc
  | raw
  deriving DecidableEq

def AOp.cls : AOp → Cls
  | .ld _ _ | .iad _ _ _ | .slc _ _ _ _ => .load
  | .new _ | .box _ | .bsl _ _ _ | .mks _ _ _ _ => .alloc
  | .st _ _ _ | .app _ _ _ _ => .wr
  | .call r _ _ | .callv r _ _ => if r then .raw else .pc
  | _ => .pure

def AO.slots : AO → List Nat
  | .t n => [n]
  | .c _ => []

def AOs.slots (l : List AO) : List Nat := l.flatMap AO.slots

def AOo.slots : Option AO → List Nat
  | some x => x.slots
  | none => []

def AOp.slots : AOp → List Nat
  | .mv x | .box x | .ld _ x | .nck x | .fad _ x | .fld _ _ x | .not x | .neg x | .cvt _ x | .ext _ x | .len x | .slen x => x.slots
  | .pick c a b => c.slots ++ a.slots ++ b.slots
  | .new _ => []
  | .bld _ ps => AOs.slots (ps.map (·.2.2))
  | .bsl _ _ ps => AOs.slots (ps.map (·.2))
  | .st _ a v => a.slots ++ v.slots
  | .iad _ x i | .aad _ _ x i | .sidx x i | .bin _ x i | .beq _ x i | .mks _ _ x i | .app _ _ x i => x.slots ++ i.slots
  | .mkf _ l => AOs.slots l
  | .slc _ x lo hi => x.slots ++ AOo.slots lo ++ AOo.slots hi
  | .call _ _ l => AOs.slots l
  | .callv _ t l => t :: AOs.slots l

/-- The address that a load reads by. -/
def AOp.addr : AOp → List Nat
  | .ld _ x | .iad _ x _ | .slc _ x _ _ => x.slots
  | _ => []

theorem ev_congr {fr fr' : Fr} {x : AO} (h : ∀ s ∈ x.slots, fr s = fr' s) : x.ev fr = x.ev fr' := by
  cases x with
  | t n => exact h n (by simp [AO.slots])
  | c v => rfl

theorem evs_congr {fr fr' : Fr} {l : List AO} (h : ∀ s ∈ AOs.slots l, fr s = fr' s) : l.map (·.ev fr) = l.map (·.ev fr') := by
  refine List.map_congr_left fun x hx => ev_congr fun s hs => h s ?_
  exact List.mem_flatMap.2 ⟨x, hx, hs⟩

theorem fillS_congr {fr fr' : Fr} : ∀ (ps : List (Nat × Nat × AO)) (cs : List AV) (h : ∀ s ∈ AOs.slots (ps.map (·.2.2)), fr s = fr' s), fillS fr cs ps = fillS fr' cs ps
  | [], _, _ => rfl
  | (o, s, x) :: r, cs, h => by
    have e : x.ev fr = x.ev fr' := ev_congr fun k hk => h k (by simp [AOs.slots, hk])
    simp only [fillS, e]
    split
    · exact fillS_congr r _ fun k hk => h k (by simp only [AOs.slots, List.map_cons, List.flatMap_cons, List.mem_append]; exact .inr hk)
    · rfl

theorem fillL_congr {fr fr' : Fr} {sz : Nat} : ∀ (ps : List (Nat × AO)) (cs : List AV) (h : ∀ s ∈ AOs.slots (ps.map (·.2)), fr s = fr' s), fillL fr sz cs ps = fillL fr' sz cs ps
  | [], _, _ => rfl
  | (o, x) :: r, cs, h => by
    have e : x.ev fr = x.ev fr' := ev_congr fun k hk => h k (by simp [AOs.slots, hk])
    simp only [fillL, e]
    split
    · exact fillL_congr r _ fun k hk => h k (by simp only [AOs.slots, List.map_cons, List.flatMap_cons, List.mem_append]; exact .inr hk)
    · rfl

theorem evo_congr {fr fr' : Fr} {x : Option AO} (h : ∀ s ∈ AOo.slots x, fr s = fr' s) : x.map (·.ev fr) = x.map (·.ev fr') := by
  cases x with
  | none => rfl
  | some x => simp only [Option.map_some]; rw [ev_congr h]

/-- An operation looks at its operands alone. -/
theorem run_congr {fr fr' : Fr} {H : Heap} {tok : Nat} {op : AOp} (h : ∀ s ∈ op.slots, fr s = fr' s) : op.run fr H tok = op.run fr' H tok := by
  cases op <;> simp only [AOp.slots, List.mem_append] at h <;> simp only [AOp.run]
  case mv x => rw [ev_congr h]
  case pick c a b => rw [ev_congr (x := c) fun s hs => h s (.inl (.inl hs)), ev_congr (x := a) fun s hs => h s (.inl (.inr hs)), ev_congr (x := b) fun s hs => h s (.inr hs)]
  case box x => rw [ev_congr h]
  case bld z ps => rw [fillS_congr ps z h]
  case bsl z n ps => rw [fillL_congr ps _ h]
  case ld s a => rw [ev_congr h]
  case st s a v => rw [ev_congr (x := a) fun s hs => h s (.inl hs), ev_congr (x := v) fun s hs => h s (.inr hs)]
  case nck x => rw [ev_congr h]
  case fad o x => rw [ev_congr h]
  case fld s o x => rw [ev_congr h]
  case iad s a v => rw [ev_congr (x := a) fun s hs => h s (.inl hs), ev_congr (x := v) fun s hs => h s (.inr hs)]
  case aad n s a v => rw [ev_congr (x := a) fun s hs => h s (.inl hs), ev_congr (x := v) fun s hs => h s (.inr hs)]
  case sidx a v => rw [ev_congr (x := a) fun s hs => h s (.inl hs), ev_congr (x := v) fun s hs => h s (.inr hs)]
  case bin op a v => rw [ev_congr (x := a) fun s hs => h s (.inl hs), ev_congr (x := v) fun s hs => h s (.inr hs)]
  case beq op a v => rw [ev_congr (x := a) fun s hs => h s (.inl hs), ev_congr (x := v) fun s hs => h s (.inr hs)]
  case not x => rw [ev_congr h]
  case neg x => rw [ev_congr h]
  case cvt k x => rw [ev_congr h]
  case ext i x => rw [ev_congr h]
  case mkf f l => rw [evs_congr h]
  case mks z b a v => rw [ev_congr (x := a) fun s hs => h s (.inl hs), ev_congr (x := v) fun s hs => h s (.inr hs)]
  case slc s x lo hi => rw [ev_congr (x := x) fun s hs => h s (.inl (.inl hs)), evo_congr (x := lo) fun s hs => h s (.inl (.inr hs)), evo_congr (x := hi) fun s hs => h s (.inr hs)]
  case len x => rw [ev_congr h]
  case slen x => rw [ev_congr h]
  case app s b a v => rw [ev_congr (x := a) fun s hs => h s (.inl hs), ev_congr (x := v) fun s hs => h s (.inr hs)]

/-- What leaves the heap alone and does not look at it. -/
theorem run_pure {fr : Fr} {H H1 : Heap} {tok : Nat} {op : AOp} {v : AV} (hc : op.cls = .pure) (h : op.run fr H tok = some (v, H1)) : H1 = H ∧ ∀ H' tok', op.run fr H' tok' = some (v, H') := by
  cases op <;> simp only [AOp.cls] at hc <;> first | (cases hc; done) | (split at hc <;> cases hc; done) | skip
  all_goals simp only [AOp.run] at h ⊢
  case mv x => cases h; exact ⟨rfl, fun _ _ => rfl⟩
  case mkf f l => cases h; exact ⟨rfl, fun _ _ => rfl⟩
  case bld z ps => obtain ⟨cs, h1, h2⟩ := map_some h; cases h2; exact ⟨rfl, fun _ _ => by rw [h1]; rfl⟩
  case bin op x y => obtain ⟨cs, h1, h2⟩ := map_some h; cases h2; exact ⟨rfl, fun _ _ => by rw [h1]; rfl⟩
  all_goals
    (repeat' split at h)
    all_goals first
      | (cases h; done)
      | (cases h; refine ⟨rfl, fun _ _ => ?_⟩; simp_all; done)
      | (obtain ⟨cs, h1, h2⟩ := map_some h; cases h2; refine ⟨rfl, fun _ _ => ?_⟩; simp_all; done)


/-- The operand that a load reads by. -/
def AOp.adr : AOp → Option AO
  | .ld _ x | .iad _ x _ | .slc _ x _ _ => some x
  | _ => none

theorem kept_look {H H' : Heap} {a : AV} {e : AV × Nat} (hk : tokKept H H' a) (h : look H a = some e) : look H' a = some e := by
  cases a <;> simp only [look] at h ⊢ <;> try exact h
  rename_i t i o
  split at h
  · rename_i z es hH
    rw [hk _ hH]; exact h
  · cases h

theorem run_load {fr : Fr} {H H1 : Heap} {tok : Nat} {op : AOp} {v : AV} (hc : op.cls = .load) (h : op.run fr H tok = some (v, H1)) : H1 = H ∧ ∀ H' tok', (∀ x, op.adr = some x → tokKept H H' (x.ev fr)) → op.run fr H' tok' = some (v, H') := by
  cases op <;> simp only [AOp.cls] at hc <;> first | (cases hc; done) | (split at hc <;> cases hc; done) | skip
  all_goals simp only [AOp.run] at h ⊢
  case ld s a =>
    split at h
    · rename_i e o hl
      obtain ⟨u, h1, h2⟩ := map_some h
      cases h2
      refine ⟨rfl, fun H' tok' hk => ?_⟩
      rw [kept_look (hk a rfl) hl]
      simp [h1]
    · cases h
  case iad s x i =>
    split at h
    · rename_i k n hi
      split at h
      · rename_i t xs hx
        split at h
        · rename_i hn
          split at h
          · rename_i e he
            split at h
            · rename_i hz
              cases h
              exact ⟨rfl, fun H' tok' hk => by simp [hi, hx, hn, he, hz]⟩
            · cases h
          · cases h
        · cases h
      · rename_i t s' m hx
        split at h
        · rename_i z es hH
          split at h
          · rename_i hn
            split at h
            · rename_i e he
              split at h
              · rename_i hz
                cases h
                refine ⟨rfl, fun H' tok' hk => ?_⟩
                have := hk x rfl
                rw [hx] at this
                simp [hi, hx, this _ hH, hn, he, hz]
              · cases h
            · cases h
          · cases h
        · cases h
      · cases h
    · cases h
  case slc sz x lo hi =>
    split at h
    · rename_i hx
      split at h
      · rename_i hh h1
        split at h
        · rename_i ll h2
          cases h
          exact ⟨rfl, fun H' tok' hk => by simp [hx, h1, h2]⟩
        · cases h
      · cases h
    · rename_i t xs hx
      split at h
      · rename_i hh h1
        split at h
        · rename_i ll h2
          split at h
          · rename_i h3
            cases h
            exact ⟨rfl, fun H' tok' hk => by rw [if_pos h3]⟩
          · cases h
        · cases h
      · cases h
    · rename_i t s n hx
      split at h
      · rename_i z es hH
        split at h
        · rename_i hz
          split at h
          · rename_i hh h1
            split at h
            · rename_i ll h2
              cases h
              refine ⟨rfl, fun H' tok' hk => ?_⟩
              have := hk x rfl
              rw [hx] at this
              simp only [hx, this _ hH, h1, h2]
              rw [if_pos hz]
            · cases h
          · cases h
        · cases h
      · cases h
    · cases h

theorem run_alloc {fr : Fr} {H H1 : Heap} {tok : Nat} {op : AOp} {v : AV} (hc : op.cls = .alloc) (h : op.run fr H tok = some (v, H1)) : ∃ b, H1 = H.upd tok b ∧ ∀ H', op.run fr H' tok = some (v, H'.upd tok b) := by
  cases op <;> simp only [AOp.cls] at hc <;> first | (cases hc; done) | (split at hc <;> cases hc; done) | skip
  all_goals simp only [AOp.run] at h ⊢
  case new z => cases h; exact ⟨_, rfl, fun _ => rfl⟩
  case box x =>
    split at h
    · cases h
    · rename_i hx
      cases h
      refine ⟨_, rfl, fun H' => ?_⟩
      rfl
  case bsl z n ps => obtain ⟨cs, h1, h2⟩ := map_some h; cases h2; exact ⟨_, rfl, fun _ => by rw [h1]; rfl⟩
  case mks z b l c =>
    split at h
    · rename_i k l' k' c' e1 e2
      split at h
      · rename_i hh
        cases h
        exact ⟨_, rfl, fun H' => by rw [if_pos hh]⟩
      · cases h
    · cases h

theorem upd_comm {H : Heap} {t u : Nat} {b c : Blk} (h : t ≠ u) : (H.upd t b).upd u c = (H.upd u c).upd t b := by
  funext k
  simp only [Heap.upd]
  by_cases h1 : k = t <;> by_cases h2 : k = u <;> simp [h1, h2]
  · subst h1; subst h2; exact absurd rfl h
  · subst h1; simp [h]
  · subst h2; intro h3; exact absurd h3.symm h

theorem upd_ext {H : Heap} {t : Nat} {c : Blk} (h : H t = none) : ∀ u b, H u = some b → (H.upd t c) u = some b := by
  intro u b hu
  simp only [Heap.upd]
  by_cases e : u = t
  · subst e; rw [h] at hu; cases hu
  · rw [if_neg e]; exact hu

theorem kept_upd {H : Heap} {t : Nat} {c : Blk} (h : H t = none) (a : AV) : tokKept H (H.upd t c) a := by
  cases a <;> simp only [tokKept] <;> exact upd_ext h _

theorem kept_refl (H : Heap) (a : AV) : tokKept H H a := by
  cases a <;> simp [tokKept]

theorem elems_ext {H H' : Heap} (hh : ∀ u b, H u = some b → H' u = some b) {a : AV} {xs : List AV} (h : elems H a = some xs) : elems H' a = some xs := by
  cases a <;> simp only [elems] at h ⊢ <;> try exact h
  rename_i t s n
  split at h
  · rename_i z es hH
    rw [hh _ _ hH]; exact h
  · cases h

/-- A writer does the same where a new block has come before it. -/
theorem run_wr {fr : Fr} {H H1 : Heap} {tok ti : Nat} {op : AOp} {v : AV} {c : Blk} (hc : op.cls = .wr) (hti : H ti = none) (hne : tok ≠ ti) (h : op.run fr H tok = some (v, H1)) : op.run fr (H.upd ti c) tok = some (v, H1.upd ti c) := by
  cases op <;> simp only [AOp.cls] at hc <;> first | (cases hc; done) | (split at hc <;> cases hc; done) | skip
  all_goals simp only [AOp.run] at h ⊢
  case st s a x =>
    split at h
    · rename_i t i o ha
      split at h
      · rename_i z es hH
        split at h
        · rename_i e he
          split at h
          · rename_i hh
            cases h
            simp only [ha, upd_ext hti _ _ hH, he]
            rw [if_pos hh]
            have : t ≠ ti := by intro e; subst e; rw [hti] at hH; cases hH
            rw [upd_comm this]
          · cases h
        · cases h
      · cases h
    · cases h
  case app sz b x y =>
    split at h
    · cases h
    · rename_i ys hys
      rw [elems_ext (upd_ext hti) hys]
      simp only
      split at h
      · rename_i h1
        rw [if_pos h1]
        split at h
        · rename_i hx
          split at h
          · rename_i h2; cases h; rw [if_pos h2]
          · rename_i h2
            rw [if_neg h2]
            split at h
            · rename_i h3; cases h; rw [if_pos h3, upd_comm hne]
            · cases h
        · rename_i t n hx
          split at h
          · rename_i z es hH
            rw [upd_ext hti _ _ hH]
            simp only
            have htt : t ≠ ti := by intro e; subst e; rw [hti] at hH; cases hH
            split at h
            · rename_i h2
              rw [if_pos h2]
              split at h
              · rename_i h3; cases h; rw [if_pos h3]
              · rename_i h3
                cases h
                rw [if_neg h3]
                refine congrArg some (Prod.ext rfl ?_)
                funext k
                simp only [Heap.upd, Heap.off]
                by_cases k1 : k = tok <;> by_cases k2 : k = ti <;> by_cases k3 : k = t <;> simp_all
            · cases h
          · cases h
        · cases h
      · cases h

theorem Vw.ext {H H' : Heap} (hh : ∀ u b, H u = some b → H' u = some b) {S : Nat → Prop} {T : Nat → Nat → Prop} {U : Prop} {x y : AV} (h : Vw H S T U x y) : Vw H' S T U x y := by
  induction h with
  | top v => exact .top v
  | b x => exact .b x
  | i k m => exact .i k m
  | s x => exact .s x
  | agg cs ds hl h ih => exact .agg cs ds hl ih
  | tup cs ds hl h ih => exact .tup cs ds hl ih
  | fn f cs ds hl h ih => exact .fn f cs ds hl ih
  | nl => exact .nl
  | nlsl t => exact .nlsl t
  | sl0 t u => exact .sl0 t u
  | rf0 t s u => exact .rf0 t s u
  | sl t u xs ys hu ht hl hz h ih => exact .sl t u xs ys hu ht hl hz ih
  | rf t s n z es u ys hS hH hn hu ht hl hz h ih => exact .rf t s n z es u ys hS (hh _ _ hH) hn hu ht hl hz ih
  | ad t i o z es e e' hS hH he hU hz h ih => exact .ad t i o z es e e' hS (hh _ _ hH) he hU hz ih
  | pr e e' o hU hz h ih => exact .pr e e' o hU hz ih

end Go.Am
