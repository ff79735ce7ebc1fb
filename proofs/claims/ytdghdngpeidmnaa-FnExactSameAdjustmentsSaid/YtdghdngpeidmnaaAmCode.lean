/-
  A part of the proof that the law FnExactSameAdjustments holds (abstract machine, walks, or the join). No conditions.
-/
import Derived.Test.YtdghdngpeidmnaaAmAny
/-! The code: sequences, tests, blocks, loops, regions in the order of the text. -/
namespace Go.Am
set_option linter.unusedVariables false

/-- The order in which a region that draws is looked at: what reads comes first, what writes then, what allocates last; and what each writer must keep. -/
def rankOf (i : AI) : Nat :=
  match i.op.cls with
  | .pure | .load => 0
  | .pc | .raw => 1
  | .wr => 2
  | .alloc => 3

def readyIn (done : Nat) (q : Nat × AI × Nat) : Bool := (q.2.2 ||| done) == done

def pickOf (done : Nat) (left : List (Nat × AI × Nat)) : Nat → Option (Nat × AI × Nat)
  | 0 => none
  | f + 1 => match left.find? (fun q => readyIn done q && rankOf q.2.1 == 3 - f) with
    | some q => some q
    | none => pickOf done left f

def orderOf : Nat → List (Nat × AI × Nat) → Nat → List (Nat × AI)
  | 0, _, _ => []
  | f + 1, left, done => match pickOf done left 4 with
    | some q => (q.1, q.2.1) :: orderOf f (left.filter fun r => r.1 != q.1) (done ||| 2 ^ q.1)
    | none => []

def adrSlot (i : AI) : Option Nat :=
  match i.op.adr with
  | some (.t s) => some s
  | _ => none

def flOf (tab : List (Nat × Nat)) (A : List (Nat × AI)) (k : Nat) (i : AI) : List Nat :=
  match i.op.cls with
  | .wr | .raw => (A.filter fun p => !(lookT tab k).testBit p.1).filterMap fun p => adrSlot p.2
  | _ => []

def fillFl (tab : List (Nat × Nat)) : List (Nat × AI) → List (Nat × AI) → List (Nat × List Nat)
  | _, [] => []
  | A, (k, i) :: B => (k, flOf tab A k i) :: fillFl tab (A ++ [(k, i)]) B

def maskP : List Nat → Nat
  | [] => 0
  | p :: r => 2 ^ p ||| maskP r

def numbered : Nat → List AI → List (Nat × AI)
  | _, [] => []
  | k, i :: r => (k, i) :: numbered (k + 1) r

def layOut (il : List AI) : List (Nat × List Nat) → List (Nat × AI)
  | [] => []
  | (k, fl) :: r => match il[k]? with
    | some i => (k, { i with fl := fl }) :: layOut il r
    | none => layOut il r

def drawn (ops : Array Oper) (il : List AI) : Option (List (Nat × AI)) :=
  let ord := orderOf il.length ((numbered 0 il).map fun p => (p.1, p.2, maskP (predsAt ops p.1))) 0
  let tab := tabOf (predsAt ops) (ord.map (·.1)) []
  let L := layOut il (fillFl tab [] ord)
  if checkL (predsAt ops) tab [] L && L.length == ops.size && (List.range ops.size).all (fun k => (L.map (·.1)).contains k) then some L else none

/-- The code. -/
def comp (P : Program) (rw : Nat → Bool) (rv : Bool) (N : Nat) : Code → Option AC
  | .skip => some .skip
  | .region _ ops d => match cops P rw rv N ops ops.toList with
    | some il => if d then (if P.follows .mixedOrders then (drawn ops il).map .opsd else none) else some (.ops il)
    | none => none
  | .seq a b => match comp P rw rv N a, comp P rw rv N b with
    | some a, some b => some (.seq a b)
    | _, _ => none
  | .cond c x y => match copd c, comp P rw rv N x, comp P rw rv N y with
    | some c, some x, some y => some (.cond c x y)
    | _, _, _ => none
  | .block id x => (comp P rw rv N x).map (.block id)
  | .loop x => (comp P rw rv N x).map .loop
  | .exit id => some (.exit id)
  | .ret => some .ret
  | _ => none

/-- How a piece of code ends. -/
inductive AEx where
  | normal
  | exit (id : Nat)
  | ret

/-- What must hold before a piece of code. -/
def awp (P : Program) : AC → (AEx → St → Prop) → St → Prop
  | .skip, Q, σ => Q .normal σ
  | .ops l, Q, σ => awpOps P l σ.n ⟨σ.fr, σ.H, σ.n + l.length⟩ (Q .normal)
  | .opsd l, Q, σ => awpD P σ.n l ⟨σ.fr, σ.H, σ.n + l.length⟩ (Q .normal)
  | .seq a b, Q, σ => awp P a (fun e σ' => match e with
    | .normal => awp P b Q σ'
    | .exit id => Q (.exit id) σ'
    | .ret => Q .ret σ') σ
  | .cond c x y, Q, σ => match c.ev σ.fr with
    | .b q => if q then awp P x Q σ else awp P y Q σ
    | _ => False
  | .block id x, Q, σ => awp P x (fun e σ' => match e with
    | .normal => Q .normal σ'
    | .exit id' => if id' = id then Q .normal σ' else Q (.exit id') σ'
    | .ret => Q .ret σ') σ
  | .loop x, Q, σ => ∃ (I : Nat → St → Prop) (m : Nat), I m σ ∧ ∀ k σ', I k σ' → awp P x (fun e σ'' => match e with
    | .normal => ∃ k', k' < k ∧ I k' σ''
    | .exit id => Q (.exit id) σ''
    | .ret => Q .ret σ'') σ'
  | .exit id, Q, σ => Q (.exit id) σ
  | .ret, Q, σ => Q .ret σ

/-- The machine's ending and the abstract one. -/
def AEx.of : Exit → Option AEx
  | .normal => some .normal
  | .exit id => some (.exit id)
  | .ret => some .ret
  | _ => none

/-- The machine's post-condition that belongs to an abstract one. -/
def Post (E : Entry) (N : Nat) (Q : AEx → St → Prop) (e : Exit) (a : Act) (w : World) : Prop :=
  ∃ e' β σ, AEx.of e = some e' ∧ Sim E β N a w σ ∧ Q e' σ

section
variable {P : Program} {rw : Nat → Bool} {rv : Bool} {E : Entry} {N : Nat} {ops : Array Oper}

theorem cops_spec : ∀ {l : List Oper} {il : List AI}, cops P rw rv N ops l = some il → il.length = l.length ∧ ∀ (i : Nat) (o : Oper), l[i]? = some o → ∃ ins, il[i]? = some ins ∧ cop P rw rv N ops o = some ins
  | [], il, h => by cases h; exact ⟨rfl, fun i o ho => by simp at ho⟩
  | o :: r, il, h => by
    simp only [cops] at h
    split at h
    · rename_i ins l' h1 h2
      cases h
      have ih := cops_spec h2
      refine ⟨by simp [ih.1], fun i o' ho => ?_⟩
      cases i with
      | zero => simp at ho; subst ho; exact ⟨ins, rfl, h1⟩
      | succ i => simpa using ih.2 i o' (by simpa using ho)
    · cases h

theorem awpOps_sound {Q : Exit → Act → World → Prop} {K : St → Prop} (hQ : ∀ β a w σ, Sim E β N a w σ → K σ → Q .normal a w) : ∀ (il : List AI) (i : Nat) (β : Bt) (a : Act) (w : World) (σ : St) (tok : Nat),
    (∀ (j : Nat) (ins : AI), il[j]? = some ins → ∃ o, ops[i + j]? = some o ∧ cop P rw rv N ops o = some ins) → Sim E β N a w σ → Free β (fun t => tok ≤ t ∧ t < tok + il.length) σ.n → E.n ≤ tok → awpOps P il tok σ K →
    wpOps P ops Q ((List.range il.length).map (i + ·)) a w
  | [], i, β, a, w, σ, tok, hl, h, hf, hE, hx => by simpa [wpOps] using hQ β a w σ h hx
  | ins :: r, i, β, a, w, σ, tok, hl, h, hf, hE, hx => by
    obtain ⟨o, ho, hc⟩ := hl 0 ins rfl
    have e : (List.range (ins :: r).length).map (i + ·) = i :: (List.range r.length).map (i + 1 + ·) := by
      rw [List.length_cons, List.range_succ_eq_map]
      simp [Nat.add_assoc, Nat.add_comm 1]
    rw [e, wpOps_cons]
    simp only [List.length_cons] at hf
    refine awpI_sound h (by simpa using ho) hc ⟨rfl, rfl, rfl⟩ (F := fun t => tok ≤ t ∧ t < tok + (r.length + 1)) hf ⟨Nat.le_refl _, by omega⟩ hE hx ?_
    intro β' a' w' σ' h' hf' hK
    exact awpOps_sound hQ r (i + 1) β' a' w' σ' (tok + 1) (fun j ins' hj => by
      obtain ⟨o', ho', hc'⟩ := hl (j + 1) ins' (by simpa using hj)
      exact ⟨o', by rw [← ho']; congr 1; omega, hc'⟩) h' (fun t h1 => hf' t ⟨⟨by omega, by omega⟩, by omega⟩) (by omega) hK

theorem region_sound {id : Nat} {il : List AI} (hc : cops P rw rv N ops ops.toList = some il) {Q : AEx → St → Prop} {β : Bt} {a : Act} {w : World} {σ : St} (h : Sim E β N a w σ) (hx : awp P (.ops il) Q σ) :
    (Code.region id ops false).wp P (Post E N Q) a w := by
  obtain ⟨hl, hs⟩ := cops_spec hc
  refine wp_region ?_
  have hsz : il.length = ops.size := by rw [hl]; simp
  have := awpOps_sound (P := P) (rw := rw) (rv := rv) (ops := ops) (Q := Post E N Q) (K := Q .normal) (E := E) (N := N) (fun β a w σ hs hq => ⟨.normal, β, σ, rfl, hs, hq⟩) il 0 β a w ⟨σ.fr, σ.H, σ.n + il.length⟩ σ.n ?_ (h.raise (by simp))
    (fun t h1 => ?_) h.cx.le hx
  · rw [hsz] at this
    simpa using this
  · intro j ins hj
    have hjl : j < ops.toList.length := by rw [← hl]; exact (List.getElem?_eq_some_iff.1 hj).1
    obtain ⟨ins', h1, h2⟩ := hs j _ (List.getElem?_eq_getElem hjl)
    rw [hj] at h1; cases h1
    exact ⟨ops.toList[j], by simp, h2⟩
  · refine ⟨?_, h1.2⟩
    cases hb : β t with
    | none => rfl
    | some p => have := h.hs.lt t p hb; omega

theorem Sim.drew {β : Bt} {a : Act} {w : World} {σ : St} (h : Sim E β N a w σ) : Sim E β N a { w with drawn := w.drawn + 1 } σ := by
  have st : ∀ ok : Nat → Prop, Stp β ok w β ok { w with drawn := w.drawn + 1 } := fun ok => ⟨fun _ p h => ⟨p, h, rfl, rfl, rfl⟩, fun _ _ h _ _ => h, Nat.le_refl _, fun _ _ h => h, fun _ _ _ _ => rfl⟩
  refine ⟨⟨h.hs.lt, h.hs.inj, h.hs.blk, fun t es ht => ?_, h.hs.xlt⟩, fun d => (h.fs d).stp (st _), h.sz, h.df, ⟨h.cx.size, h.cx.os, h.cx.tape, h.cx.output, h.cx.le, h.cx.tok, h.cx.keep, h.cx.old, h.cx.own, h.cx.new, h.cx.back, h.cx.elt⟩⟩
  obtain ⟨p, h1, h2, h3, h4, h5⟩ := h.hs.dom t es ht
  refine ⟨p, h1, h2, h3, h4, fun i x hx => ⟨(h5 i x hx).1, fun j y hj => ?_⟩⟩
  obtain ⟨v, hv, hr⟩ := (h5 i x hx).2 j y hj
  exact ⟨v, hv, hr.stp (st _)⟩

theorem layOut_spec {il : List AI} : ∀ {pl : List (Nat × List Nat)} {p : Nat × AI}, p ∈ layOut il pl → ∃ i, il[p.1]? = some i ∧ p.2.d = i.d ∧ p.2.op = i.op ∧ p.2.g = i.g
  | [], p, h => by simp [layOut] at h
  | (k, fl) :: r, p, h => by
    simp only [layOut] at h
    split at h
    · rename_i i hi
      rcases List.mem_cons.1 h with rfl | h
      · exact ⟨i, hi, rfl, rfl, rfl⟩
      · exact layOut_spec h
    · exact layOut_spec h

theorem drawn_sound (hm : P.follows .mixedOrders = true) {id : Nat} {il : List AI} (hc : cops P rw rv N ops ops.toList = some il) {L : List (Nat × AI)} (hd : drawn ops il = some L) {Q : AEx → St → Prop} {β : Bt} {a : Act} {w : World} {σ : St} (h : Sim E β N a w σ) (hx : awp P (.opsd L) Q σ) :
    (Code.region id ops true).wp P (Post E N Q) a w := by
  obtain ⟨hl, hs⟩ := cops_spec hc
  have hsz : il.length = ops.size := by rw [hl]; simp
  unfold drawn at hd
  simp only at hd
  split at hd
  · rename_i hk
    simp only [Bool.and_eq_true] at hk
    obtain ⟨⟨k1, k2⟩, k3⟩ := hk
    have hL := Option.some.inj hd
    rw [hL] at k1 k2 k3
    simp only [beq_iff_eq] at k2
    have hins : Ins P rw rv N ops L := by
      intro p hp
      rw [← hL] at hp
      obtain ⟨i, h1, h2, h3, h4⟩ := layOut_spec hp
      have hlt : p.1 < il.length := (List.getElem?_eq_some_iff.1 h1).1
      have hlt' : p.1 < ops.toList.length := by rw [← hl]; exact hlt
      obtain ⟨i0, g1, g2⟩ := hs p.1 _ (List.getElem?_eq_getElem hlt')
      rw [h1] at g1; cases g1
      exact ⟨ops.toList[p.1], i, by simp, g2, h2, h3, h4⟩
    refine wp_region_any hm ?_
    have hfilt : (L.filter fun p => !(Array.replicate ops.size false).getD p.1 true) = L := by
      refine List.filter_eq_self.2 fun p hp => ?_
      obtain ⟨o, i0, g1, _⟩ := hins p hp
      have := (Array.getElem?_eq_some_iff.1 g1).1
      simp [Array.getD, this]
    have hdr : Sim E β N a { w with drawn := w.drawn + 1 } σ := h.drew
    refine any_sound (E := E) (N := N) (Q := Post E N Q) (K := Q .normal) (tabOf_ok _ _ TabOk.nil) k1 ?_ hins (fun β a w σ hs hq => ⟨.normal, β, σ, rfl, hs, hq⟩) (n0 := σ.n) h.cx.le ops.size (Array.replicate ops.size false) β a _ ⟨σ.fr, σ.H, σ.n + L.length⟩ (by simp) (by rw [hfilt]; exact k2) ?_ (hdr.raise (by simp)) ?_ (by rw [hfilt]; exact hx)
    · intro k hk
      have := List.all_eq_true.1 k3 k (List.mem_range.2 hk)
      simpa using this
    · intro k hk
      simp only [Array.getD_eq_getD_getElem?, Array.getElem?_replicate] at hk
      split at hk <;> simp at hk
    · rintro t ⟨p, hp, rfl⟩
      rw [hfilt] at hp
      obtain ⟨o, i0, g1, _⟩ := hins p hp
      have := (Array.getElem?_eq_some_iff.1 g1).1
      refine ⟨?_, by simp only; omega⟩
      cases hb : β (σ.n + p.1) with
      | none => rfl
      | some q => have := h.hs.lt _ q hb; omega
  · cases hd

/-- The code is sound. -/
theorem comp_sound : ∀ {c : Code} {ac : AC}, comp P rw rv N c = some ac → ∀ {Q : AEx → St → Prop} {β : Bt} {a : Act} {w : World} {σ : St}, Sim E β N a w σ → awp P ac Q σ → c.wp P (Post E N Q) a w := by
  intro c
  induction c with
  | skip => intro ac hc Q β a w σ h hx; cases hc; exact wp_skip ⟨.normal, β, σ, rfl, h, hx⟩
  | region id ops d =>
    intro ac hc Q β a w σ h hx
    simp only [comp] at hc
    split at hc
    · rename_i il hil
      cases d with
      | false =>
        rw [if_neg (by simp)] at hc
        cases hc
        exact region_sound hil h hx
      | true =>
        rw [if_pos rfl] at hc
        split at hc
        · rename_i hm
          obtain ⟨L, hL, rfl⟩ := map_some hc
          exact drawn_sound hm hil hL h hx
        · cases hc
    · cases hc
  | seq x y ihx ihy =>
    intro ac hc Q β a w σ h hx
    simp only [comp] at hc
    split at hc
    · rename_i ax ay hax hay
      cases hc
      simp only [awp] at hx
      refine wp_seq (wp_mono (ihx hax h hx) ?_)
      rintro e a' w' ⟨e', β', σ', he, hs, hq⟩
      cases e <;> simp only [AEx.of] at he <;> cases he
      · exact ihy hay hs hq
      · exact ⟨_, β', σ', rfl, hs, hq⟩
      · exact ⟨_, β', σ', rfl, hs, hq⟩
    · cases hc
  | cond c x y ihx ihy =>
    intro ac hc Q β a w σ h hx
    simp only [comp] at hc
    split at hc
    · rename_i oc ax ay hoc hax hay
      cases hc
      simp only [awp] at hx
      split at hx
      · rename_i q hq
        have hv := (hq ▸ opd_rep h hoc : Rep _ _ _ _ (.b q)).b_inv
        refine wp_cond hv ?_
        cases q
        · simpa using ihy hay h (by simpa using hx)
        · simpa using ihx hax h (by simpa using hx)
      · exact hx.elim
    · cases hc
  | block id x ih =>
    intro ac hc Q β a w σ h hx
    simp only [comp] at hc
    obtain ⟨ax, hax, rfl⟩ := map_some hc
    simp only [awp] at hx
    refine wp_block (wp_mono (ih hax h hx) ?_)
    rintro e a' w' ⟨e', β', σ', he, hs, hq⟩
    cases e <;> simp only [AEx.of] at he <;> cases he
    · exact ⟨_, β', σ', rfl, hs, hq⟩
    · rename_i id'
      simp only at hq
      simp only [Exit.inBlock]
      by_cases hid : id' = id
      · rw [if_pos hid] at hq ⊢; exact ⟨_, β', σ', rfl, hs, hq⟩
      · rw [if_neg hid] at hq ⊢; exact ⟨_, β', σ', rfl, hs, hq⟩
    · exact ⟨_, β', σ', rfl, hs, hq⟩
  | loop x ih =>
    intro ac hc Q β a w σ h hx
    simp only [comp] at hc
    obtain ⟨ax, hax, rfl⟩ := map_some hc
    simp only [awp] at hx
    obtain ⟨I, m, h0, hround⟩ := hx
    refine wp_loop_ghost (fun k a w => ∃ β σ, Sim E β N a w σ ∧ I k σ) m ⟨β, σ, h, h0⟩ ?_
    rintro k a w ⟨β, σ, hs, hI⟩
    refine wp_mono (ih hax hs (hround k σ hI)) ?_
    rintro e a' w' ⟨e', β', σ', he, hs', hq⟩
    cases e <;> simp only [AEx.of] at he <;> cases he
    · obtain ⟨k', hk, hI'⟩ := hq
      exact ⟨k', hk, β', σ', hs', hI'⟩
    · exact ⟨_, β', σ', rfl, hs', hq⟩
    · exact ⟨_, β', σ', rfl, hs', hq⟩
  | exit id => intro ac hc Q β a w σ h hx; cases hc; exact wp_exit ⟨_, β, σ, rfl, h, hx⟩
  | ret => intro ac hc Q β a w σ h hx; cases hc; exact wp_ret ⟨_, β, σ, rfl, h, hx⟩
  | rangeFunc f p x y _ _ => intro ac hc; cases hc
  | scope x _ => intro ac hc; cases hc
  | label l => intro ac hc; cases hc
  | goto l => intro ac hc; cases hc
  | refuse s => intro ac hc; cases hc
end

end Go.Am
