/-
  A part of the proof that the law FnExactAbsoluteOf holds for every input: the abstract machine. No conditions.
-/
import Derived.Test.YtdghdngpeidmnaaAb1
import Derived.Laws.BitsLemmas
import Derived.ProofKit
import Derived.Deep.Onto
set_option linter.unusedVariables false
set_option linter.unusedSimpArgs false
/-! The code: sequences, tests, blocks, loops, regions in the order of the text. -/
namespace Go.Am
set_option linter.unusedVariables false

/-- The order in which a region that draws is looked at: what reads comes first, what writes then, what allocates last; and what each writer must keep. -/
def rankOf (i : AI) : Nat :=
  match i.op.cls with
  | .pure | .load => 0
  | .pc | .raw => 1
  | .wr => 2
  | .alloc => 3

def readyIn (done : Nat) (q : Nat × AI × Nat) : Bool := (q.2.2 ||| done) == done

def pickOf (done : Nat) (left : List (Nat × AI × Nat)) : Nat → Option (Nat × AI × Nat)
  | 0 => none
  | f + 1 => match left.find? (fun q => readyIn done q && rankOf q.2.1 == 3 - f) with
    | some q => some q
    | none => pickOf done left f

def orderOf : Nat → List (Nat × AI × Nat) → Nat → List (Nat × AI)
  | 0, _, _ => []
  | f + 1, left, done => match pickOf done left 4 with
    | some q => (q.1, q.2.1) :: orderOf f (left.filter fun r => r.1 != q.1) (done ||| 2 ^ q.1)
    | none => []

def adrSlot (i : AI) : Option Nat :=
  match i.op.adr with
  | some (.t s) => some s
  | _ => none

def flOf (tab : List (Nat × Nat)) (A : List (Nat × AI)) (k : Nat) (i : AI) : List Nat :=
  match i.op.cls with
  | .wr | .raw => (A.filter fun p => !(lookT tab k).testBit p.1).filterMap fun p => adrSlot p.2
  | _ => []

def fillFl (tab : List (Nat × Nat)) : List (Nat × AI) → List (Nat × AI) → List (Nat × List Nat)
  | _, [] => []
  | A, (k, i) :: B => (k, flOf tab A k i) :: fillFl tab (A ++ [(k, i)]) B

def maskP : List Nat → Nat
  | [] => 0
  | p :: r => 2 ^ p ||| maskP r

def numbered : Nat → List AI → List (Nat × AI)
  | _, [] => []
  | k, i :: r => (k, i) :: numbered (k + 1) r

def layOut (il : List AI) : List (Nat × List Nat) → List (Nat × AI)
  | [] => []
  | (k, fl) :: r => match il[k]? with
    | some i => (k, { i with fl := fl }) :: layOut il r
    | none => layOut il r

def drawn (ops : Array Oper) (il : List AI) : Option (List (Nat × AI)) :=
  let ord := orderOf il.length ((numbered 0 il).map fun p => (p.1, p.2, maskP (predsAt ops p.1))) 0
  let tab := tabOf (predsAt ops) (ord.map (·.1)) []
  let L := layOut il (fillFl tab [] ord)
  if checkL (predsAt ops) tab [] L && L.length == ops.size && (List.range ops.size).all (fun k => (L.map (·.1)).contains k) then some L else none

/-- The code. -/
def comp (P : Program) (rw : Nat → Bool) (rv : Bool) (N : Nat) : Code → Option AC
  | .skip => some .skip
  | .region _ ops d => match cops P (fun f => !d || rw f) (!d || rv) N ops ops.toList with
    | some il => if d then (if P.follows .mixedOrders then (drawn ops il).map .opsd else none) else some (.ops il)
    | none => none
  | .seq a b => match comp P rw rv N a, comp P rw rv N b with
    | some a, some b => some (.seq a b)
    | _, _ => none
  | .cond c x y => match copd c, comp P rw rv N x, comp P rw rv N y with
    | some c, some x, some y => some (.cond c x y)
    | _, _, _ => none
  | .block id x => (comp P rw rv N x).map (.block id)
  | .loop x => (comp P rw rv N x).map .loop
  | .exit id => some (.exit id)
  | .ret => some .ret
  | _ => none

/-- How a piece of code ends. -/
inductive AEx where
  | normal
  | exit (id : Nat)
  | ret

/-- What must hold before a piece of code. -/
def awp (P : Program) : AC → (AEx → St → Prop) → St → Prop
  | .skip, Q, σ => Q .normal σ
  | .ops l, Q, σ => awpOps P l σ.n ⟨σ.fr, σ.H, σ.n + l.length⟩ (Q .normal)
  | .opsd l, Q, σ => awpD P σ.n l ⟨σ.fr, σ.H, σ.n + l.length⟩ (Q .normal)
  | .seq a b, Q, σ => awp P a (fun e σ' => match e with
    | .normal => awp P b Q σ'
    | .exit id => Q (.exit id) σ'
    | .ret => Q .ret σ') σ
  | .cond c x y, Q, σ => match c.ev σ.fr with
    | .b q => if q then awp P x Q σ else awp P y Q σ
    | _ => False
  | .block id x, Q, σ => awp P x (fun e σ' => match e with
    | .normal => Q .normal σ'
    | .exit id' => if id' = id then Q .normal σ' else Q (.exit id') σ'
    | .ret => Q .ret σ') σ
  | .loop x, Q, σ => ∃ (I : Nat → St → Prop) (m : Nat), I m σ ∧ ∀ k σ', I k σ' → awp P x (fun e σ'' => match e with
    | .normal => ∃ k', k' < k ∧ I k' σ''
    | .exit id => Q (.exit id) σ''
    | .ret => Q .ret σ'') σ'
  | .exit id, Q, σ => Q (.exit id) σ
  | .ret, Q, σ => Q .ret σ

/-- The machine's ending and the abstract one. -/
def AEx.of : Exit → Option AEx
  | .normal => some .normal
  | .exit id => some (.exit id)
  | .ret => some .ret
  | _ => none

/-- The machine's post-condition that belongs to an abstract one. -/
def Post (E : Entry) (N : Nat) (Q : AEx → St → Prop) (e : Exit) (a : Act) (w : World) : Prop :=
  ∃ e' β σ, AEx.of e = some e' ∧ Sim E β N a w σ ∧ Q e' σ

section
variable {P : Program} {rw : Nat → Bool} {rv : Bool} {E : Entry} {N : Nat} {ops : Array Oper}

theorem cops_spec : ∀ {l : List Oper} {il : List AI}, cops P rw rv N ops l = some il → il.length = l.length ∧ ∀ (i : Nat) (o : Oper), l[i]? = some o → ∃ ins, il[i]? = some ins ∧ cop P rw rv N ops o = some ins
  | [], il, h => by cases h; exact ⟨rfl, fun i o ho => by simp at ho⟩
  | o :: r, il, h => by
    simp only [cops] at h
    split at h
    · rename_i ins l' h1 h2
      cases h
      have ih := cops_spec h2
      refine ⟨by simp [ih.1], fun i o' ho => ?_⟩
      cases i with
      | zero => simp at ho; subst ho; exact ⟨ins, rfl, h1⟩
      | succ i => simpa using ih.2 i o' (by simpa using ho)
    · cases h

theorem awpOps_sound {Q : Exit → Act → World → Prop} {K : St → Prop} (hQ : ∀ β a w σ, Sim E β N a w σ → K σ → Q .normal a w) : ∀ (il : List AI) (i : Nat) (β : Bt) (a : Act) (w : World) (σ : St) (tok : Nat),
    (∀ (j : Nat) (ins : AI), il[j]? = some ins → ∃ o, ops[i + j]? = some o ∧ cop P rw rv N ops o = some ins) → Sim E β N a w σ → Free β (fun t => tok ≤ t ∧ t < tok + il.length) σ.n → E.n ≤ tok → awpOps P il tok σ K →
    wpOps P ops Q ((List.range il.length).map (i + ·)) a w
  | [], i, β, a, w, σ, tok, hl, h, hf, hE, hx => by simpa [wpOps] using hQ β a w σ h hx
  | ins :: r, i, β, a, w, σ, tok, hl, h, hf, hE, hx => by
    obtain ⟨o, ho, hc⟩ := hl 0 ins rfl
    have e : (List.range (ins :: r).length).map (i + ·) = i :: (List.range r.length).map (i + 1 + ·) := by
      rw [List.length_cons, List.range_succ_eq_map]
      simp [Nat.add_assoc, Nat.add_comm 1]
    rw [e, wpOps_cons]
    simp only [List.length_cons] at hf
    refine awpI_sound h (by simpa using ho) hc ⟨rfl, rfl, rfl⟩ (F := fun t => tok ≤ t ∧ t < tok + (r.length + 1)) hf ⟨Nat.le_refl _, by omega⟩ hE hx ?_
    intro β' a' w' σ' h' hf' hK
    exact awpOps_sound hQ r (i + 1) β' a' w' σ' (tok + 1) (fun j ins' hj => by
      obtain ⟨o', ho', hc'⟩ := hl (j + 1) ins' (by simpa using hj)
      exact ⟨o', by rw [← ho']; congr 1; omega, hc'⟩) h' (fun t h1 => hf' t ⟨⟨by omega, by omega⟩, by omega⟩) (by omega) hK

theorem region_sound {id : Nat} {il : List AI} (hc : cops P rw rv N ops ops.toList = some il) {Q : AEx → St → Prop} {β : Bt} {a : Act} {w : World} {σ : St} (h : Sim E β N a w σ) (hx : awp P (.ops il) Q σ) :
    (Code.region id ops false).wp P (Post E N Q) a w := by
  obtain ⟨hl, hs⟩ := cops_spec hc
  refine wp_region ?_
  have hsz : il.length = ops.size := by rw [hl]; simp
  have := awpOps_sound (P := P) (rw := rw) (rv := rv) (ops := ops) (Q := Post E N Q) (K := Q .normal) (E := E) (N := N) (fun β a w σ hs hq => ⟨.normal, β, σ, rfl, hs, hq⟩) il 0 β a w ⟨σ.fr, σ.H, σ.n + il.length⟩ σ.n ?_ (h.raise (by simp))
    (fun t h1 => ?_) h.cx.le hx
  · rw [hsz] at this
    simpa using this
  · intro j ins hj
    have hjl : j < ops.toList.length := by rw [← hl]; exact (List.getElem?_eq_some_iff.1 hj).1
    obtain ⟨ins', h1, h2⟩ := hs j _ (List.getElem?_eq_getElem hjl)
    rw [hj] at h1; cases h1
    exact ⟨ops.toList[j], by simp, h2⟩
  · refine ⟨?_, h1.2⟩
    cases hb : β t with
    | none => rfl
    | some p => have := h.hs.lt t p hb; omega

theorem Sim.drew {β : Bt} {a : Act} {w : World} {σ : St} (h : Sim E β N a w σ) : Sim E β N a { w with drawn := w.drawn + 1 } σ := by
  have st : ∀ ok : Nat → Prop, Stp β ok w β ok { w with drawn := w.drawn + 1 } := fun ok => ⟨fun _ p h => ⟨p, h, rfl, rfl, rfl, rfl, rfl⟩, fun _ _ h _ _ => h, Nat.le_refl _, fun _ _ h => h, fun _ _ _ _ => rfl⟩
  refine ⟨⟨h.hs.lt, h.hs.inj, h.hs.blk, fun t es ht => ?_, h.hs.xlt⟩, fun d => (h.fs d).stp (st _), h.sz, h.df, ⟨h.cx.size, h.cx.os, h.cx.tape, h.cx.output, h.cx.le, h.cx.tok, h.cx.keep, h.cx.old, h.cx.own, h.cx.new, h.cx.back, h.cx.elt⟩⟩
  obtain ⟨p, h1, h2, h3, h4, h5⟩ := h.hs.dom t es ht
  refine ⟨p, h1, h2, h3, h4, fun i x hx => ⟨(h5 i x hx).1, fun j y hj => ?_⟩⟩
  obtain ⟨v, hv, hr⟩ := (h5 i x hx).2 j y hj
  exact ⟨v, hv, hr.stp (st _)⟩

theorem layOut_spec {il : List AI} : ∀ {pl : List (Nat × List Nat)} {p : Nat × AI}, p ∈ layOut il pl → ∃ i, il[p.1]? = some i ∧ p.2.d = i.d ∧ p.2.op = i.op ∧ p.2.g = i.g
  | [], p, h => by simp [layOut] at h
  | (k, fl) :: r, p, h => by
    simp only [layOut] at h
    split at h
    · rename_i i hi
      rcases List.mem_cons.1 h with rfl | h
      · exact ⟨i, hi, rfl, rfl, rfl⟩
      · exact layOut_spec h
    · exact layOut_spec h

theorem drawn_sound (hm : P.follows .mixedOrders = true) {id : Nat} {il : List AI} (hc : cops P rw rv N ops ops.toList = some il) {L : List (Nat × AI)} (hd : drawn ops il = some L) {Q : AEx → St → Prop} {β : Bt} {a : Act} {w : World} {σ : St} (h : Sim E β N a w σ) (hx : awp P (.opsd L) Q σ) :
    (Code.region id ops true).wp P (Post E N Q) a w := by
  obtain ⟨hl, hs⟩ := cops_spec hc
  have hsz : il.length = ops.size := by rw [hl]; simp
  unfold drawn at hd
  simp only at hd
  split at hd
  · rename_i hk
    simp only [Bool.and_eq_true] at hk
    obtain ⟨⟨k1, k2⟩, k3⟩ := hk
    have hL := Option.some.inj hd
    rw [hL] at k1 k2 k3
    simp only [beq_iff_eq] at k2
    have hins : Ins P rw rv N ops L := by
      intro p hp
      rw [← hL] at hp
      obtain ⟨i, h1, h2, h3, h4⟩ := layOut_spec hp
      have hlt : p.1 < il.length := (List.getElem?_eq_some_iff.1 h1).1
      have hlt' : p.1 < ops.toList.length := by rw [← hl]; exact hlt
      obtain ⟨i0, g1, g2⟩ := hs p.1 _ (List.getElem?_eq_getElem hlt')
      rw [h1] at g1; cases g1
      exact ⟨ops.toList[p.1], i, by simp, g2, h2, h3, h4⟩
    refine wp_region_any hm ?_
    have hfilt : (L.filter fun p => !(Array.replicate ops.size false).getD p.1 true) = L := by
      refine List.filter_eq_self.2 fun p hp => ?_
      obtain ⟨o, i0, g1, _⟩ := hins p hp
      have := (Array.getElem?_eq_some_iff.1 g1).1
      simp [Array.getD, this]
    have hdr : Sim E β N a { w with drawn := w.drawn + 1 } σ := h.drew
    refine any_sound (E := E) (N := N) (Q := Post E N Q) (K := Q .normal) (tabOf_ok _ _ TabOk.nil) k1 ?_ hins (fun β a w σ hs hq => ⟨.normal, β, σ, rfl, hs, hq⟩) (n0 := σ.n) h.cx.le ops.size (Array.replicate ops.size false) β a _ ⟨σ.fr, σ.H, σ.n + L.length⟩ (by simp) (by rw [hfilt]; exact k2) ?_ (hdr.raise (by simp)) ?_ (by rw [hfilt]; exact hx)
    · intro k hk
      have := List.all_eq_true.1 k3 k (List.mem_range.2 hk)
      simpa using this
    · intro k hk
      simp only [Array.getD_eq_getD_getElem?, Array.getElem?_replicate] at hk
      split at hk <;> simp at hk
    · rintro t ⟨p, hp, rfl⟩
      rw [hfilt] at hp
      obtain ⟨o, i0, g1, _⟩ := hins p hp
      have := (Array.getElem?_eq_some_iff.1 g1).1
      refine ⟨?_, by simp only; omega⟩
      cases hb : β (σ.n + p.1) with
      | none => rfl
      | some q => have := h.hs.lt _ q hb; omega
  · cases hd

/-- The code is sound. -/
theorem comp_sound : ∀ {c : Code} {ac : AC}, comp P rw rv N c = some ac → ∀ {Q : AEx → St → Prop} {β : Bt} {a : Act} {w : World} {σ : St}, Sim E β N a w σ → awp P ac Q σ → c.wp P (Post E N Q) a w := by
  intro c
  induction c with
  | skip => intro ac hc Q β a w σ h hx; cases hc; exact wp_skip ⟨.normal, β, σ, rfl, h, hx⟩
  | region id ops d =>
    intro ac hc Q β a w σ h hx
    simp only [comp] at hc
    split at hc
    · rename_i il hil
      cases d with
      | false =>
        rw [if_neg (by simp)] at hc
        cases hc
        exact region_sound hil h hx
      | true =>
        rw [if_pos rfl] at hc
        split at hc
        · rename_i hm
          obtain ⟨L, hL, rfl⟩ := map_some hc
          exact drawn_sound hm hil hL h hx
        · cases hc
    · cases hc
  | seq x y ihx ihy =>
    intro ac hc Q β a w σ h hx
    simp only [comp] at hc
    split at hc
    · rename_i ax ay hax hay
      cases hc
      simp only [awp] at hx
      refine wp_seq (wp_mono (ihx hax h hx) ?_)
      rintro e a' w' ⟨e', β', σ', he, hs, hq⟩
      cases e <;> simp only [AEx.of] at he <;> cases he
      · exact ihy hay hs hq
      · exact ⟨_, β', σ', rfl, hs, hq⟩
      · exact ⟨_, β', σ', rfl, hs, hq⟩
    · cases hc
  | cond c x y ihx ihy =>
    intro ac hc Q β a w σ h hx
    simp only [comp] at hc
    split at hc
    · rename_i oc ax ay hoc hax hay
      cases hc
      simp only [awp] at hx
      split at hx
      · rename_i q hq
        have hv := (hq ▸ opd_rep h hoc : Rep _ _ _ _ (.b q)).b_inv
        refine wp_cond hv ?_
        cases q
        · simpa using ihy hay h (by simpa using hx)
        · simpa using ihx hax h (by simpa using hx)
      · exact hx.elim
    · cases hc
  | block id x ih =>
    intro ac hc Q β a w σ h hx
    simp only [comp] at hc
    obtain ⟨ax, hax, rfl⟩ := map_some hc
    simp only [awp] at hx
    refine wp_block (wp_mono (ih hax h hx) ?_)
    rintro e a' w' ⟨e', β', σ', he, hs, hq⟩
    cases e <;> simp only [AEx.of] at he <;> cases he
    · exact ⟨_, β', σ', rfl, hs, hq⟩
    · rename_i id'
      simp only at hq
      simp only [Exit.inBlock]
      by_cases hid : id' = id
      · rw [if_pos hid] at hq ⊢; exact ⟨_, β', σ', rfl, hs, hq⟩
      · rw [if_neg hid] at hq ⊢; exact ⟨_, β', σ', rfl, hs, hq⟩
    · exact ⟨_, β', σ', rfl, hs, hq⟩
  | loop x ih =>
    intro ac hc Q β a w σ h hx
    simp only [comp] at hc
    obtain ⟨ax, hax, rfl⟩ := map_some hc
    simp only [awp] at hx
    obtain ⟨I, m, h0, hround⟩ := hx
    refine wp_loop_ghost (fun k a w => ∃ β σ, Sim E β N a w σ ∧ I k σ) m ⟨β, σ, h, h0⟩ ?_
    rintro k a w ⟨β, σ, hs, hI⟩
    refine wp_mono (ih hax hs (hround k σ hI)) ?_
    rintro e a' w' ⟨e', β', σ', he, hs', hq⟩
    cases e <;> simp only [AEx.of] at he <;> cases he
    · obtain ⟨k', hk, hI'⟩ := hq
      exact ⟨k', hk, β', σ', hs', hI'⟩
    · exact ⟨_, β', σ', rfl, hs', hq⟩
    · exact ⟨_, β', σ', rfl, hs', hq⟩
  | exit id => intro ac hc Q β a w σ h hx; cases hc; exact wp_exit ⟨_, β, σ, rfl, h, hx⟩
  | ret => intro ac hc Q β a w σ h hx; cases hc; exact wp_ret ⟨_, β, σ, rfl, h, hx⟩
  | rangeFunc f p x y _ _ => intro ac hc; cases hc
  | scope x _ => intro ac hc; cases hc
  | label l => intro ac hc; cases hc
  | goto l => intro ac hc; cases hc
  | refuse s => intro ac hc; cases hc
end

end Go.Am
/-! A function's contract out of its body. -/
namespace Go.Am
set_option linter.unusedVariables false

/-- Where a result stands. -/
inductive AR where
  | t (n : Nat)
  | cell (s : Option Nat) (a : Nat)

def AR.get (σ : St) : AR → Option AV
  | .t n => some (σ.fr n)
  | .cell s a => match look σ.H (σ.fr a) with
    | some (e, o) => partOf s e.cells o
    | none => none

def AR.gets (σ : St) : List AR → Option (List AV)
  | [] => some []
  | r :: rs => match r.get σ, AR.gets σ rs with
    | some v, some vs => some (v :: vs)
    | _, _ => none

/-- One value, or a tuple. -/
def one : List AV → AV
  | [v] => v
  | vs => .tup vs

def cres1 (P : Program) : ResultVar → Option AR
  | .tmp t => some (.t t)
  | .cell a t => (ldOf P t).map fun s => .cell s a

def cress (P : Program) : List ResultVar → Option (List AR)
  | [] => some []
  | r :: rs => match cres1 P r, cress P rs with
    | some v, some vs => some (v :: vs)
    | _, _ => none

/-- A compiled function. -/
structure AF where
  n : Nat
  code : AC
  res : List AR

def compF (P : Program) (rw : Nat → Bool) (rv : Bool) (fn : Func) : Option AF :=
  match fn.body with
  | some c => if (fn.name == "runtime.NumGoroutine") = false then match comp P rw rv fn.ntmps c, cress P fn.results.toList with
      | some ac, some rs => some ⟨fn.ntmps, ac, rs⟩
      | _, _ => none
    else none
  | none => none

/-- The frame that a call begins with. -/
def frOf (args : List AV) : Fr := fun d => (args[d]?).getD .top

section
variable {P : Program} {rw : Nat → Bool} {rv : Bool} {E : Entry} {β : Bt} {N : Nat} {a : Act} {w : World} {σ : St}

def resM (tmps : Array Value) : ResultVar → Sem Value
  | .tmp t => pure (tmps.getD t undef)
  | .cell b t => do loadVar t (← asAddr (tmps.getD b undef))

theorem cres1_run (h : Sim E β N a w σ) {r : ResultVar} {ar : AR} (hc : cres1 P r = some ar) {v : AV} (hv : ar.get σ = some v) :
    ∃ u, (resM a.tmps r).run P w = .ok u w ∧ Rep β (okB E.X β σ.H) w u v := by
  cases r with
  | tmp t => cases hc; cases hv; exact ⟨_, rfl, h.fs t⟩
  | cell b t =>
    simp only [cres1] at hc
    obtain ⟨s, hs, rfl⟩ := map_some hc
    simp only [AR.get] at hv
    split at hv
    · rename_i e o hl
      obtain ⟨g, bs, hva, hcc⟩ := look_cells h.hs (h.fs b) hl
      obtain ⟨u, h1, h2⟩ := run_loadVar_rep (P := P) hs hcc hv
      exact ⟨u, by simp only [resM, Sem.run_bind, hva, asAddr, Sem.run_pure, Result.andThen_ok, h1], h2⟩
    · cases hv

theorem cress_run (h : Sim E β N a w σ) : ∀ {rs : List ResultVar} {ars : List AR}, cress P rs = some ars → ∀ {vs : List AV}, AR.gets σ ars = some vs →
    ∃ us : List Value, (rs.mapM (resM a.tmps)).run P w = Result.ok us w ∧ LRep β (okB E.X β σ.H) w us.toArray vs
  | [], ars, hc, vs, hv => by cases hc; cases hv; exact ⟨[], by simp, rfl, fun j y hj => by simp at hj⟩
  | r :: rs, ars, hc, vs, hv => by
    simp only [cress] at hc
    split at hc
    · rename_i ar ars' h1 h2
      cases hc
      simp only [AR.gets] at hv
      split at hv
      · rename_i v vs' g1 g2
        cases hv
        obtain ⟨u, k1, k2⟩ := cres1_run (P := P) h h1 g1
        obtain ⟨us, k3, k4⟩ := cress_run h h2 g2
        refine ⟨u :: us, ?_, by simpa using k4.1, fun j y hj => ?_⟩
        · simp only [List.mapM_cons, Sem.run_bind, k1, Result.andThen_ok, k3, Sem.run_pure]
        · cases j with
          | zero => simp at hj; subst hj; simpa using k2
          | succ j => simpa using k4.2 j y (by simpa using hj)
      · cases hv
    · cases hc

theorem results_run (h : Sim E β N a w σ) {fn : Func} {ars : List AR} (hc : cress P fn.results.toList = some ars) {vs : List AV} (hv : AR.gets σ ars = some vs) :
    ∃ u, (results fn a.tmps).run P w = .ok u w ∧ Rep β (okB E.X β σ.H) w u (one vs) := by
  obtain ⟨us, h1, h2, h3⟩ := cress_run (P := P) h hc hv
  have hr : (results fn a.tmps).run P w = .ok (if h : us.toArray.size = 1 then us.toArray[0] else .tuple us.toArray) w := by
    have e : results fn a.tmps = (do let vs ← fn.results.mapM (resM a.tmps); pure (if h : vs.size = 1 then vs[0] else .tuple vs)) := by
      unfold results
      congr 1
    rw [e, Sem.run_bind, Array.mapM_eq_mapM_toList, Sem.run_map, h1]
    rfl
  refine ⟨_, hr, ?_⟩
  by_cases hs : us.toArray.size = 1
  · rw [dif_pos hs]
    have hl : vs.length = 1 := by rw [← h2]; exact hs
    obtain ⟨v, rfl⟩ := List.length_eq_one_iff.1 hl
    have := h3 0 v rfl
    have h0 : 0 < us.length := by simp at hs; omega
    simpa [one, h0] using this
  · rw [dif_neg hs]
    have hl : vs.length ≠ 1 := by rw [← h2]; exact hs
    have : one vs = .tup vs := by
      unfold one
      split
      · simp at hl
      · rfl
    rw [this]
    exact .tup _ _ h2 h3
end

/-- THE CONTRACT OUT OF THE BODY. -/
theorem mc_of_awp {P : Program} {rw : Nat → Bool} {rv : Bool} {f : Nat} {fn : Func} {af : AF} (hf : P.funcs[f]? = some fn) (hc : compF P rw rv fn = some af) {args : List AV} {H : Heap} {n : Nat} {Q : AV → Heap → Nat → Prop} (hargs : args.length ≤ af.n)
    (hx : awp P af.code (fun e σ => match e with
      | .exit _ => False
      | _ => match AR.gets σ af.res with
        | some vs => Q (one vs) σ.H σ.n
        | none => False) ⟨frOf args, H, n⟩) : MC P f args H n Q := by
  unfold compF at hc
  split at hc
  · rename_i c hb
    split at hc
    · rename_i hname
      split at hc
      · rename_i ac rs hac hrs
        cases hc
        refine ⟨⟨fn, hf, by rw [hb]; rfl, hname⟩, fun X β w cargs hs hr => ?_⟩
        refine calls_of_wp hf hb ?_
        have hsim : Sim ⟨X, β, H, n, w⟩ β fn.ntmps { tmps := cargs ++ Array.replicate (fn.ntmps - cargs.size) undef, defers := [] } w ⟨frOf args, H, n⟩ := by
          refine ⟨hs, fun d => ?_, ?_, rfl, ?_⟩
          · show Rep β (okB X β H) w ((cargs ++ Array.replicate (fn.ntmps - cargs.size) undef).getD d undef) (frOf args d)
            unfold frOf
            cases hd : args[d]? with
            | none => exact .top _
            | some y =>
              have hlt : d < cargs.size := by rw [hr.1]; exact (List.getElem?_eq_some_iff.1 hd).1
              have := hr.2 d y hd
              rw [Array.getElem?_eq_getElem hlt] at this
              have hlt2 : d < (cargs ++ Array.replicate (fn.ntmps - cargs.size) undef).size := by simp; omega
              simp only [Array.getD, hlt2, dif_pos, Option.getD_some]
              have he : (cargs ++ Array.replicate (fn.ntmps - cargs.size) undef)[d] = cargs[d] := Array.getElem_append_left hlt
              simpa [he] using this
          · have := hr.1
            simp only at hargs
            simp; omega
          · refine ⟨Nat.le_refl _, rfl, rfl, rfl, Nat.le_refl _, fun t p hp => ⟨p, hp, rfl, rfl, rfl, rfl, rfl⟩, fun t p hp _ => hp, fun g _ _ => rfl, fun t es _ hes => by simp only at hes ⊢; rw [hes]; rfl, ?_, fun t p _ hp => by simp only at hp ⊢; rw [hp]; rfl, hs.lt⟩
            intro t p ht hp
            have := hs.lt t p hp
            simp only at ht
            omega
        refine wp_mono (comp_sound hac hsim hx) ?_
        rintro e a' w' ⟨e', β', σ', he, hs', hq⟩
        have fin : ∀ (_ : match AR.gets σ' rs with | some vs => Q (one vs) σ'.H σ'.n | none => False), a'.defers = [] ∧ ∃ v, (results fn a'.tmps).run P w' = .ok v w' ∧
            ∃ cv v' β' H' n', Ending.returned v = .returned cv ∧ Q v' H' n' ∧ HSim X β' w' H' n' ∧ Rep β' (okB X β' H') w' cv v' ∧ Ctx ⟨X, β, H, n, w⟩ β' w' H' n' := by
          intro hq
          split at hq
          · rename_i vs hvs
            obtain ⟨u, h1, h2⟩ := results_run (P := P) hs' hrs hvs
            exact ⟨hs'.df, u, h1, u, one vs, β', σ'.H, σ'.n, rfl, hq, hs'.hs, h2, hs'.cx⟩
          · exact hq.elim
        cases e <;> simp only [AEx.of] at he <;> cases he
        · exact fin hq
        · exact hq.elim
        · exact fin hq
      · cases hc
    · cases hc
  · cases hc

end Go.Am
/-! Contracts of functions: how they are stated and proved. -/
namespace Go.Am
set_option linter.unusedVariables false

theorem awpI_imp {P : Program} {j : AI} {tok : Nat} {σ : St} {K K' : St → Prop} (hk : ∀ σ1, K σ1 → K' σ1) (h : awpI P j tok σ K) : awpI P j tok σ K' := by
  obtain ⟨k, e, hx⟩ := awpI_now.1 h
  exact awpI_now.2 ⟨k, e, awpX_mono (fun σ1 _ _ h3 => hk σ1 h3) hx⟩

theorem awpOps_mono {P : Program} {K K' : St → Prop} (hk : ∀ σ, K σ → K' σ) : ∀ {l : List AI} {tok : Nat} {σ : St}, awpOps P l tok σ K → awpOps P l tok σ K'
  | [], _, σ, h => hk σ h
  | i :: r, tok, σ, h => awpI_imp (fun σ1 h1 => awpOps_mono hk h1) h

theorem awpD_mono {P : Program} {n0 : Nat} {K K' : St → Prop} (hk : ∀ σ, K σ → K' σ) : ∀ {l : List (Nat × AI)} {σ : St}, awpD P n0 l σ K → awpD P n0 l σ K'
  | [], σ, h => hk σ h
  | (k, i) :: r, σ, h => awpI_imp (fun σ1 h1 => awpD_mono hk h1) h

theorem awp_mono {P : Program} {c : AC} : ∀ {Q Q' : AEx → St → Prop} {σ : St}, (∀ e σ, Q e σ → Q' e σ) → awp P c Q σ → awp P c Q' σ := by
  induction c with
  | skip => intro Q Q' σ h hx; exact h _ _ hx
  | ops l => intro Q Q' σ h hx; exact awpOps_mono (fun σ => h _ σ) hx
  | opsd l => intro Q Q' σ h hx; exact awpD_mono (fun σ => h _ σ) hx
  | seq a b iha ihb =>
    intro Q Q' σ h hx
    refine iha (fun e σ' hq => ?_) hx
    cases e with
    | normal => exact ihb h hq
    | exit id => exact h _ _ hq
    | ret => exact h _ _ hq
  | cond c x y ihx ihy =>
    intro Q Q' σ h hx
    simp only [awp] at hx ⊢
    split at hx
    · rename_i q hq
      cases q
      · simp only [Bool.false_eq_true, if_false] at hx ⊢; exact ihy h hx
      · simp only [if_true] at hx ⊢; exact ihx h hx
    · exact hx.elim
  | block id x ih =>
    intro Q Q' σ h hx
    refine ih (fun e σ' hq => ?_) hx
    cases e with
    | normal => exact h _ _ hq
    | exit id' =>
      simp only at hq ⊢
      split at hq
      · rename_i e; rw [if_pos e]; exact h _ _ hq
      · rename_i e; rw [if_neg e]; exact h _ _ hq
    | ret => exact h _ _ hq
  | loop x ih =>
    intro Q Q' σ h hx
    obtain ⟨I, m, h0, hr⟩ := hx
    refine ⟨I, m, h0, fun k σ' hI => ih (fun e σ'' hq => ?_) (hr k σ' hI)⟩
    cases e with
    | normal => exact hq
    | exit id => exact h _ _ hq
    | ret => exact h _ _ hq
  | exit id => intro Q Q' σ h hx; exact h _ _ hx
  | ret => intro Q Q' σ h hx; exact h _ _ hx

/-- The program has this function at this number, compiled. -/
def Has (P : Program) (f : Nat) (af : AF) : Prop := ∃ fn rw rv, P.funcs[f]? = some fn ∧ compF P rw rv fn = some af

/-- What must hold at the end of a body. -/
def Fin (res : List AR) (Q : AV → Heap → Nat → Prop) (e : AEx) (σ : St) : Prop :=
  match e with
  | .exit _ => False
  | _ => ∃ vs, AR.gets σ res = some vs ∧ Q (one vs) σ.H σ.n

theorem mc_of {P : Program} {f : Nat} {af : AF} (h : Has P f af) {args : List AV} {H : Heap} {n : Nat} {Q : AV → Heap → Nat → Prop} (hl : args.length ≤ af.n)
    (hx : awp P af.code (Fin af.res Q) ⟨frOf args, H, n⟩) : MC P f args H n Q := by
  obtain ⟨fn, rw', rv, hf, hc⟩ := h
  refine mc_of_awp hf hc hl ?_
  refine awp_mono (fun e σ hq => ?_) hx
  cases e with
  | exit id => exact hq.elim
  | normal => obtain ⟨vs, h1, h2⟩ := hq; simp only [h1]; exact h2
  | ret => obtain ⟨vs, h1, h2⟩ := hq; simp only [h1]; exact h2

/-- The end of a data contract. -/
def Data (R : Nat → AV) (c : Nat) (U : Prop) (v : AV) (H' : Heap) (n' : Nat) : Prop :=
  ∃ ρ : Nat → Nat, (∀ k k', k < c → k' < c → ρ k = ρ k' → k = k') ∧ ∀ n, Vw H' (fun _ => True) (fun k t => ∃ j, j < c ∧ k = n + j ∧ ρ j = t) U v (R n)

theorem pc_of {P : Program} {f : Nat} {af : AF} (h : Has P f af) {args : List AV} {R : Nat → AV} {c : Nat} {U : Prop} (hl : args.length ≤ af.n)
    (hx : awp P af.code (Fin af.res (Data R c U)) ⟨frOf args, noHeap, 0⟩) : PC P f args R c U := mc_of h hl hx

/-- From data to data: the result is no memory of the call's own that the caller may write. -/
def DC (P : Program) (f : Nat) (args : List AV) (r : AV) : Prop := PC P f args (fun _ => r) 0 True

/-- From data to a value without memory. -/
def SC (P : Program) (f : Nat) (args : List AV) (r : AV) : Prop := PC P f args (fun _ => r) 0 False

theorem Vw.mono {H : Heap} {S : Nat → Prop} {T T' : Nat → Nat → Prop} {U U' : Prop} (ht : ∀ k t, T k t → T' k t) (hU : U → U') {x y : AV} (h : Vw H S T U x y) : Vw H S T' U' x y := by
  induction h with
  | top v => exact .top v
  | b x => exact .b x
  | i k m => exact .i k m
  | s x => exact .s x
  | agg cs ds hl h ih => exact .agg cs ds hl ih
  | tup cs ds hl h ih => exact .tup cs ds hl ih
  | fn f cs ds hl h ih => exact .fn f cs ds hl ih
  | nl => exact .nl
  | nlsl t => exact .nlsl t
  | sl0 t u => exact .sl0 t u
  | rf0 t s u => exact .rf0 t s u
  | sl t u xs ys hu h2 hl hz h ih => exact .sl t u xs ys (fun e => hU (hu e)) (fun k hk => by obtain ⟨j, a, b⟩ := h2 k hk; exact ⟨j, a, ht _ _ b⟩) hl hz ih
  | rf t s n z es u ys hS hH hn hu h2 hl hz h ih => exact .rf t s n z es u ys hS hH hn (fun e => hU (hu e)) (fun k hk => ht _ _ (h2 k hk)) hl hz ih
  | ad t i o z es e e' hS hH he hu hz h ih => exact .ad t i o z es e e' hS hH he (hU hu) hz ih
  | pr e e' o hu hz h ih => exact .pr e e' o (hU hu) hz ih

theorem SC.dc {P : Program} {f : Nat} {args : List AV} {r : AV} (h : SC P f args r) : DC P f args r :=
  MC.mono h fun v H' n' ⟨ρ, h1, h2⟩ => ⟨ρ, h1, fun n => (h2 n).mono (fun _ _ h => h) (fun h => h.elim)⟩

/-- A value without memory. -/
inductive Flat : AV → Prop
  | b (x : Bool) : Flat (.b x)
  | i (k : IntKind) (m : Int) : Flat (.i k m)
  | s (x : ByteArray) : Flat (.s x)
  | tup (cs : List AV) (h : ∀ x ∈ cs, Flat x) : Flat (.tup cs)
  | agg (cs : List AV) (h : ∀ x ∈ cs, Flat x) : Flat (.agg cs)
  | nl : Flat .nl
  | fn (f : Nat) (cs : List AV) (h : ∀ x ∈ cs, Flat x) : Flat (.fn f cs)

theorem Flat.vw {H : Heap} {S : Nat → Prop} {T : Nat → Nat → Prop} {U : Prop} {x : AV} (h : Flat x) : Vw H S T U x x := by
  have aux : ∀ cs : List AV, (∀ x ∈ cs, Vw H S T U x x) → ∀ (j : Nat) (x y : AV), cs[j]? = some x → cs[j]? = some y → Vw H S T U x y := by
    intro cs h j x y hx hy
    rw [hx] at hy; cases hy
    exact h x (List.mem_of_getElem? hx)
  induction h with
  | b x => exact .b x
  | i k m => exact .i k m
  | s x => exact .s x
  | tup cs h ih => exact .tup cs cs rfl (aux cs ih)
  | agg cs h ih => exact .agg cs cs rfl (aux cs ih)
  | nl => exact .nl
  | fn f cs h ih => exact .fn f cs cs rfl (aux cs ih)

theorem Data.flat {r : AV} {U : Prop} {H : Heap} {n : Nat} (h : Flat r) : Data (fun _ => r) 0 U r H n := ⟨fun _ => 0, fun k k' h => by omega, fun n => h.vw⟩

/-- Data: slices and addresses lead to no own block. -/
inductive Dat : AV → Prop
  | b (x : Bool) : Dat (.b x)
  | i (k : IntKind) (m : Int) : Dat (.i k m)
  | s (x : ByteArray) : Dat (.s x)
  | tup (cs : List AV) (h : ∀ x ∈ cs, Dat x) : Dat (.tup cs)
  | agg (cs : List AV) (h : ∀ x ∈ cs, Dat x) : Dat (.agg cs)
  | nl : Dat .nl
  | fn (f : Nat) (cs : List AV) (h : ∀ x ∈ cs, Dat x) : Dat (.fn f cs)
  | sl (xs : List AV) (h : ∀ x ∈ xs, ∀ y ∈ x.cells, Dat y) : Dat (.sl none xs)

theorem Dat.vw {H : Heap} {S : Nat → Prop} {T : Nat → Nat → Prop} {x : AV} (h : Dat x) : Vw H S T True x x := by
  have aux : ∀ cs : List AV, (∀ x ∈ cs, Vw H S T True x x) → ∀ (j : Nat) (x y : AV), cs[j]? = some x → cs[j]? = some y → Vw H S T True x y := by
    intro cs h j x y hx hy
    rw [hx] at hy; cases hy
    exact h x (List.mem_of_getElem? hx)
  induction h with
  | b x => exact .b x
  | i k m => exact .i k m
  | s x => exact .s x
  | tup cs h ih => exact .tup cs cs rfl (aux cs ih)
  | agg cs h ih => exact .agg cs cs rfl (aux cs ih)
  | nl => exact .nl
  | fn f cs h ih => exact .fn f cs cs rfl (aux cs ih)
  | sl xs h ih =>
    refine .sl none none xs xs (fun _ => trivial) (fun k hk => by cases hk) rfl ?_ ?_
    · intro j x y hx hy; rw [hx] at hy; cases hy; rfl
    · intro j x y k p q hx hy hp hq
      rw [hx] at hy; cases hy
      rw [hp] at hq; cases hq
      exact ih x (List.mem_of_getElem? hx) p (List.mem_of_getElem? hp)

/-- A call on data, stated for the use in a walk: the arguments are data. -/
theorem awpC_dc {P : Program} {f : Nat} {args : List AV} {r : AV} (h : DC P f args r) (ha : ∀ x ∈ args, Dat x) {d : Option Nat} {fl : List Nat} {σ : St} {K : St → Prop} (hk : K ⟨σ.fr.put d r, σ.H, σ.n⟩) : awpC P false f args d fl σ K := by
  refine ⟨args, fun _ => r, 0, fun _ => False, True, h, ⟨rfl, fun j x y hx hy => ?_⟩, fun _ _ h => h, by simpa using hk⟩
  rw [hx] at hy; cases hy
  exact (ha x (List.mem_of_getElem? hx)).vw

end Go.Am
/-! The walk, for the simplifier: what is still to be done is data. -/
namespace Go.Am
set_option linter.unusedVariables false

/-- What is still to be done behind a piece of code. -/
inductive KF where
  | seq (b : AC)
  | blk (id : Nat)
  | lp (J : St → Prop)

def runK (P : Program) : List KF → (AEx → St → Prop) → AEx → St → Prop
  | [], Q => Q
  | .seq b :: r, Q => fun e σ => match e with
    | .normal => awp P b (runK P r Q) σ
    | .exit id => runK P r Q (.exit id) σ
    | .ret => runK P r Q .ret σ
  | .blk id :: r, Q => fun e σ => match e with
    | .normal => runK P r Q .normal σ
    | .exit id' => if id' = id then runK P r Q .normal σ else runK P r Q (.exit id') σ
    | .ret => runK P r Q .ret σ
  | .lp J :: r, Q => fun e σ => match e with
    | .normal => J σ
    | .exit id => runK P r Q (.exit id) σ
    | .ret => runK P r Q .ret σ

/-- Code, and what stands behind it. -/
def go (P : Program) (c : AC) (ks : List KF) (Q : AEx → St → Prop) (σ : St) : Prop := awp P c (runK P ks Q) σ

def goE (P : Program) (e : AEx) (ks : List KF) (Q : AEx → St → Prop) (σ : St) : Prop := runK P ks Q e σ

/-- Instructions in the order of the text. -/
def goO (P : Program) (l : List AI) (tok : Nat) (ks : List KF) (Q : AEx → St → Prop) (σ : St) : Prop := awpOps P l tok σ (runK P ks Q .normal)

/-- Instructions of a region that draws. -/
def goD (P : Program) (l : List (Nat × AI)) (n0 : Nat) (ks : List KF) (Q : AEx → St → Prop) (σ : St) : Prop := awpD P n0 l σ (runK P ks Q .normal)

/-- A test. -/
def goC (P : Program) (v : AV) (x y : AC) (ks : List KF) (Q : AEx → St → Prop) (σ : St) : Prop :=
  match v with
  | .b true => go P x ks Q σ
  | .b false => go P y ks Q σ
  | _ => False

/-- What stands behind an instruction. -/
inductive RT where
  | o (l : List AI) (tok : Nat)
  | d (l : List (Nat × AI)) (n0 : Nat)

def goR (P : Program) (r : RT) (ks : List KF) (Q : AEx → St → Prop) (σ : St) : Prop :=
  match r with
  | .o l tok => goO P l tok ks Q σ
  | .d l n0 => goD P l n0 ks Q σ

/-- One instruction. -/
def goI (P : Program) (i : AI) (tok : Nat) (r : RT) (ks : List KF) (Q : AEx → St → Prop) (σ : St) : Prop := awpX P i tok σ (goR P r ks Q)

/-- A guard. -/
def goG (P : Program) (v : AV) (want : Bool) (i : AI) (tok : Nat) (r : RT) (ks : List KF) (Q : AEx → St → Prop) (σ : St) : Prop :=
  match v with
  | .b x => if x = want then goI P i tok r ks Q σ else goR P r ks Q ⟨σ.fr.put i.d (.tup []), σ.H, σ.n⟩
  | .tup [] => goR P r ks Q ⟨σ.fr.put i.d (.tup []), σ.H, σ.n⟩
  | _ => False

/-- What an operation gave. -/
def goV (P : Program) (res : Option (AV × Heap)) (fl : List Nat) (d : Option Nat) (r : RT) (ks : List KF) (Q : AEx → St → Prop) (σ : St) : Prop :=
  match res with
  | some (v, H') => (∀ s ∈ fl, tokKept σ.H H' (σ.fr s)) ∧ goR P r ks Q ⟨σ.fr.put d v, H', σ.n⟩
  | none => False

/-- A call. -/
def goCall (P : Program) (raw : Bool) (f : Nat) (args : List AV) (d : Option Nat) (fl : List Nat) (r : RT) (ks : List KF) (Q : AEx → St → Prop) (σ : St) : Prop :=
  awpC P raw f args d fl σ (goR P r ks Q)

def goCallv (P : Program) (raw : Bool) (v : AV) (args : List AV) (d : Option Nat) (fl : List Nat) (r : RT) (ks : List KF) (Q : AEx → St → Prop) (σ : St) : Prop :=
  match v with
  | .fn g caps => goCall P raw g (args ++ caps) d fl r ks Q σ
  | _ => False

section
variable {P : Program} {ks : List KF} {Q : AEx → St → Prop} {σ : St} {r : RT} {tok n0 : Nat} {i : AI}

theorem go_skip : go P .skip ks Q σ = goE P .normal ks Q σ := rfl
theorem go_ops {l : List AI} : go P (.ops l) ks Q σ = goO P l σ.n ks Q ⟨σ.fr, σ.H, σ.n + l.length⟩ := rfl
theorem go_opsd {l : List (Nat × AI)} : go P (.opsd l) ks Q σ = goD P l σ.n ks Q ⟨σ.fr, σ.H, σ.n + l.length⟩ := rfl
theorem go_seq {a b : AC} : go P (.seq a b) ks Q σ = go P a (.seq b :: ks) Q σ := by
  unfold go
  simp only [awp]
  congr
theorem go_cond {c : AO} {x y : AC} : go P (.cond c x y) ks Q σ = goC P (c.ev σ.fr) x y ks Q σ := by
  unfold go goC
  simp only [awp]
  cases c.ev σ.fr with
  | b q => cases q <;> rfl
  | _ => rfl
theorem go_block {id : Nat} {x : AC} : go P (.block id x) ks Q σ = go P x (.blk id :: ks) Q σ := by
  unfold go
  simp only [awp]
  congr
theorem go_exit {id : Nat} : go P (.exit id) ks Q σ = goE P (.exit id) ks Q σ := rfl
theorem go_ret : go P .ret ks Q σ = goE P .ret ks Q σ := rfl
theorem goE_nil {e : AEx} : goE P e [] Q σ = Q e σ := rfl
theorem goE_seq {b : AC} : goE P .normal (.seq b :: ks) Q σ = go P b ks Q σ := rfl
theorem goE_seq_exit {b : AC} {id : Nat} : goE P (.exit id) (.seq b :: ks) Q σ = goE P (.exit id) ks Q σ := rfl
theorem goE_seq_ret {b : AC} : goE P .ret (.seq b :: ks) Q σ = goE P .ret ks Q σ := rfl
theorem goE_blk {id : Nat} : goE P .normal (.blk id :: ks) Q σ = goE P .normal ks Q σ := rfl
theorem goE_blk_ret {id : Nat} : goE P .ret (.blk id :: ks) Q σ = goE P .ret ks Q σ := rfl
theorem goE_blk_exit {id id' : Nat} : goE P (.exit id') (.blk id :: ks) Q σ = if id' = id then goE P .normal ks Q σ else goE P (.exit id') ks Q σ := rfl
theorem goE_lp {J : St → Prop} : goE P .normal (.lp J :: ks) Q σ = J σ := rfl
theorem goE_lp_exit {J : St → Prop} {id : Nat} : goE P (.exit id) (.lp J :: ks) Q σ = goE P (.exit id) ks Q σ := rfl
theorem goE_lp_ret {J : St → Prop} : goE P .ret (.lp J :: ks) Q σ = goE P .ret ks Q σ := rfl
theorem goO_nil : goO P [] tok ks Q σ = goE P .normal ks Q σ := rfl
theorem goD_nil : goD P [] n0 ks Q σ = goE P .normal ks Q σ := rfl
theorem goR_o {l : List AI} : goR P (.o l tok) ks Q σ = goO P l tok ks Q σ := rfl
theorem goR_d {l : List (Nat × AI)} : goR P (.d l n0) ks Q σ = goD P l n0 ks Q σ := rfl
theorem goO_cons {d : Option Nat} {op : AOp} {fl : List Nat} {l : List AI} : goO P (⟨d, op, none, fl⟩ :: l) tok ks Q σ = goI P ⟨d, op, none, fl⟩ tok (.o l (tok + 1)) ks Q σ := rfl
theorem goO_cons_g {d : Option Nat} {op : AOp} {fl : List Nat} {l : List AI} {s : Nat} {b : Bool} : goO P (⟨d, op, some (s, b), fl⟩ :: l) tok ks Q σ = goG P (σ.fr s) b ⟨d, op, none, fl⟩ tok (.o l (tok + 1)) ks Q σ := by
  unfold goO goG goI
  simp only [awpOps, awpI]
  cases σ.fr s with
  | tup l => cases l <;> rfl
  | _ => rfl
theorem goD_cons {d : Option Nat} {op : AOp} {fl : List Nat} {k : Nat} {l : List (Nat × AI)} : goD P ((k, ⟨d, op, none, fl⟩) :: l) n0 ks Q σ = goI P ⟨d, op, none, fl⟩ (n0 + k) (.d l n0) ks Q σ := rfl
theorem goD_cons_g {d : Option Nat} {op : AOp} {fl : List Nat} {k : Nat} {l : List (Nat × AI)} {s : Nat} {b : Bool} : goD P ((k, ⟨d, op, some (s, b), fl⟩) :: l) n0 ks Q σ = goG P (σ.fr s) b ⟨d, op, none, fl⟩ (n0 + k) (.d l n0) ks Q σ := by
  unfold goD goG goI
  simp only [awpD, awpI]
  cases σ.fr s with
  | tup l => cases l <;> rfl
  | _ => rfl
theorem goG_b {x want : Bool} : goG P (.b x) want i tok r ks Q σ = if x = want then goI P i tok r ks Q σ else goR P r ks Q ⟨σ.fr.put i.d (.tup []), σ.H, σ.n⟩ := rfl
theorem goG_tt : goG P (.b true) true i tok r ks Q σ = goI P i tok r ks Q σ := rfl
theorem goG_ff : goG P (.b false) false i tok r ks Q σ = goI P i tok r ks Q σ := rfl
theorem goG_tf {d : Option Nat} {op : AOp} {g : Option (Nat × Bool)} {fl : List Nat} : goG P (.b true) false ⟨d, op, g, fl⟩ tok r ks Q σ = goR P r ks Q ⟨σ.fr.put d (.tup []), σ.H, σ.n⟩ := rfl
theorem goG_ft {d : Option Nat} {op : AOp} {g : Option (Nat × Bool)} {fl : List Nat} : goG P (.b false) true ⟨d, op, g, fl⟩ tok r ks Q σ = goR P r ks Q ⟨σ.fr.put d (.tup []), σ.H, σ.n⟩ := rfl
theorem goC_t {x y : AC} : goC P (.b true) x y ks Q σ = go P x ks Q σ := rfl
theorem goC_f {x y : AC} : goC P (.b false) x y ks Q σ = go P y ks Q σ := rfl
theorem goV_some {v : AV} {H' : Heap} {d : Option Nat} : goV P (some (v, H')) [] d r ks Q σ = goR P r ks Q ⟨σ.fr.put d v, H', σ.n⟩ := by
  simp [goV]
theorem goV_some_fl {v : AV} {H' : Heap} {fl : List Nat} {d : Option Nat} : goV P (some (v, H')) fl d r ks Q σ = ((∀ s ∈ fl, tokKept σ.H H' (σ.fr s)) ∧ goR P r ks Q ⟨σ.fr.put d v, H', σ.n⟩) := rfl
theorem goI_call {d : Option Nat} {raw : Bool} {f : Nat} {args : List AO} {g : Option (Nat × Bool)} {fl : List Nat} : goI P ⟨d, .call raw f args, g, fl⟩ tok r ks Q σ = goCall P raw f (args.map (·.ev σ.fr)) d fl r ks Q σ := rfl
theorem goI_callv {d : Option Nat} {raw : Bool} {t : Nat} {args : List AO} {g : Option (Nat × Bool)} {fl : List Nat} : goI P ⟨d, .callv raw t args, g, fl⟩ tok r ks Q σ = goCallv P raw (σ.fr t) (args.map (·.ev σ.fr)) d fl r ks Q σ := by
  unfold goI goCallv
  simp only [awpX]
  cases σ.fr t <;> rfl
theorem goCallv_fn {d : Option Nat} {raw : Bool} {f : Nat} {caps args : List AV} {fl : List Nat} : goCallv P raw (.fn f caps) args d fl r ks Q σ = goCall P raw f (args ++ caps) d fl r ks Q σ := rfl
section ops
variable {d : Option Nat} {g : Option (Nat × Bool)} {fl : List Nat}
theorem goI_mv {x : AO} : goI P ⟨d, .mv x, g, fl⟩ tok r ks Q σ = goV P (some (x.ev σ.fr, σ.H)) fl d r ks Q σ := rfl
theorem goI_pick {c a b : AO} : goI P ⟨d, .pick c a b, g, fl⟩ tok r ks Q σ = goV P (AOp.run σ.fr σ.H tok (.pick c a b)) fl d r ks Q σ := rfl
theorem goI_new {z : AV} : goI P ⟨d, .new z, g, fl⟩ tok r ks Q σ = goV P (AOp.run σ.fr σ.H tok (.new z)) fl d r ks Q σ := rfl
theorem goI_box {x : AO} : goI P ⟨d, .box x, g, fl⟩ tok r ks Q σ = goV P (AOp.run σ.fr σ.H tok (.box x)) fl d r ks Q σ := rfl
theorem goI_bld {z : List AV} {ps : List (Nat × Nat × AO)} : goI P ⟨d, .bld z ps, g, fl⟩ tok r ks Q σ = goV P (AOp.run σ.fr σ.H tok (.bld z ps)) fl d r ks Q σ := rfl
theorem goI_bsl {z : AV} {m : Nat} {ps : List (Nat × AO)} : goI P ⟨d, .bsl z m ps, g, fl⟩ tok r ks Q σ = goV P (AOp.run σ.fr σ.H tok (.bsl z m ps)) fl d r ks Q σ := rfl
theorem goI_ld {s : Option Nat} {a : AO} : goI P ⟨d, .ld s a, g, fl⟩ tok r ks Q σ = goV P (AOp.run σ.fr σ.H tok (.ld s a)) fl d r ks Q σ := rfl
theorem goI_st {s : Option Nat} {a v : AO} : goI P ⟨d, .st s a v, g, fl⟩ tok r ks Q σ = goV P (AOp.run σ.fr σ.H tok (.st s a v)) fl d r ks Q σ := rfl
theorem goI_nck {x : AO} : goI P ⟨d, .nck x, g, fl⟩ tok r ks Q σ = goV P (AOp.run σ.fr σ.H tok (.nck x)) fl d r ks Q σ := rfl
theorem goI_fad {o : Nat} {a : AO} : goI P ⟨d, .fad o a, g, fl⟩ tok r ks Q σ = goV P (AOp.run σ.fr σ.H tok (.fad o a)) fl d r ks Q σ := rfl
theorem goI_fld {s : Option Nat} {o : Nat} {x : AO} : goI P ⟨d, .fld s o x, g, fl⟩ tok r ks Q σ = goV P (AOp.run σ.fr σ.H tok (.fld s o x)) fl d r ks Q σ := rfl
theorem goI_iad {z : Nat} {x j : AO} : goI P ⟨d, .iad z x j, g, fl⟩ tok r ks Q σ = goV P (AOp.run σ.fr σ.H tok (.iad z x j)) fl d r ks Q σ := rfl
theorem goI_aad {m z : Nat} {x j : AO} : goI P ⟨d, .aad m z x j, g, fl⟩ tok r ks Q σ = goV P (AOp.run σ.fr σ.H tok (.aad m z x j)) fl d r ks Q σ := rfl
theorem goI_sidx {x j : AO} : goI P ⟨d, .sidx x j, g, fl⟩ tok r ks Q σ = goV P (AOp.run σ.fr σ.H tok (.sidx x j)) fl d r ks Q σ := rfl
theorem goI_bin {op : BinOp} {x y : AO} : goI P ⟨d, .bin op x y, g, fl⟩ tok r ks Q σ = goV P (AOp.run σ.fr σ.H tok (.bin op x y)) fl d r ks Q σ := rfl
theorem goI_beq {ne : Bool} {x y : AO} : goI P ⟨d, .beq ne x y, g, fl⟩ tok r ks Q σ = goV P (AOp.run σ.fr σ.H tok (.beq ne x y)) fl d r ks Q σ := rfl
theorem goI_not {x : AO} : goI P ⟨d, .not x, g, fl⟩ tok r ks Q σ = goV P (AOp.run σ.fr σ.H tok (.not x)) fl d r ks Q σ := rfl
theorem goI_neg {x : AO} : goI P ⟨d, .neg x, g, fl⟩ tok r ks Q σ = goV P (AOp.run σ.fr σ.H tok (.neg x)) fl d r ks Q σ := rfl
theorem goI_cvt {k : IntKind} {x : AO} : goI P ⟨d, .cvt k x, g, fl⟩ tok r ks Q σ = goV P (AOp.run σ.fr σ.H tok (.cvt k x)) fl d r ks Q σ := rfl
theorem goI_ext {j : Nat} {x : AO} : goI P ⟨d, .ext j x, g, fl⟩ tok r ks Q σ = goV P (AOp.run σ.fr σ.H tok (.ext j x)) fl d r ks Q σ := rfl
theorem goI_mkf {f : Nat} {l : List AO} : goI P ⟨d, .mkf f l, g, fl⟩ tok r ks Q σ = goV P (some (.fn f (l.map (·.ev σ.fr)), σ.H)) fl d r ks Q σ := rfl
theorem goI_mks {z : AV} {b : Nat} {l c : AO} : goI P ⟨d, .mks z b l c, g, fl⟩ tok r ks Q σ = goV P (AOp.run σ.fr σ.H tok (.mks z b l c)) fl d r ks Q σ := rfl
theorem goI_slc {z : Nat} {x : AO} {l h : Option AO} : goI P ⟨d, .slc z x l h, g, fl⟩ tok r ks Q σ = goV P (AOp.run σ.fr σ.H tok (.slc z x l h)) fl d r ks Q σ := rfl
theorem goI_len {x : AO} : goI P ⟨d, .len x, g, fl⟩ tok r ks Q σ = goV P (AOp.run σ.fr σ.H tok (.len x)) fl d r ks Q σ := rfl
theorem goI_slen {x : AO} : goI P ⟨d, .slen x, g, fl⟩ tok r ks Q σ = goV P (AOp.run σ.fr σ.H tok (.slen x)) fl d r ks Q σ := rfl
theorem goI_app {z b : Nat} {x y : AO} : goI P ⟨d, .app z b x y, g, fl⟩ tok r ks Q σ = goV P (AOp.run σ.fr σ.H tok (.app z b x y)) fl d r ks Q σ := rfl
end ops

/-- A loop: what holds at the top of each round, with a measure. -/
theorem go_loop {x : AC} (I : Nat → St → Prop) (m : Nat) (h0 : I m σ) (h : ∀ k σ', I k σ' → go P x (.lp (fun σ'' => ∃ k', k' < k ∧ I k' σ'') :: ks) Q σ') : go P (.loop x) ks Q σ := by
  refine ⟨I, m, h0, fun k σ' hI => awp_mono (fun e σ'' hq => ?_) (h k σ' hI)⟩
  cases e <;> exact hq

theorem goCall_dc {f : Nat} {args : List AV} {v : AV} {d : Option Nat} {fl : List Nat} (h : DC P f args v) (ha : ∀ x ∈ args, Dat x) (hk : goR P r ks Q ⟨σ.fr.put d v, σ.H, σ.n⟩) : goCall P false f args d fl r ks Q σ :=
  awpC_dc h ha hk
end

theorem pc_go {P : Program} {f : Nat} {N : Nat} {c : AC} {res : List AR} (h : Has P f ⟨N, c, res⟩) {args : List AV} {R : Nat → AV} {k : Nat} {U : Prop} (hl : args.length ≤ N)
    (hx : go P c [] (Fin res (Data R k U)) ⟨frOf args, noHeap, 0⟩) : PC P f args R k U := pc_of h hl hx

theorem sc_go {P : Program} {f : Nat} {N : Nat} {c : AC} {res : List AR} (h : Has P f ⟨N, c, res⟩) {args : List AV} {v : AV} (hl : args.length ≤ N)
    (hx : go P c [] (Fin res (Data (fun _ => v) 0 False)) ⟨frOf args, noHeap, 0⟩) : SC P f args v := pc_of h hl hx

theorem dc_go {P : Program} {f : Nat} {N : Nat} {c : AC} {res : List AR} (h : Has P f ⟨N, c, res⟩) {args : List AV} {v : AV} (hl : args.length ≤ N)
    (hx : go P c [] (Fin res (Data (fun _ => v) 0 True)) ⟨frOf args, noHeap, 0⟩) : DC P f args v := pc_of h hl hx

def finK (vs : Option (List AV)) (Q : AV → Heap → Nat → Prop) (H : Heap) (n : Nat) : Prop :=
  match vs with
  | some vs => Q (one vs) H n
  | none => False

theorem fin_ret {res : List AR} {Q : AV → Heap → Nat → Prop} {σ : St} : Fin res Q .ret σ = finK (AR.gets σ res) Q σ.H σ.n := by
  unfold Fin finK
  cases AR.gets σ res <;> simp
theorem fin_normal {res : List AR} {Q : AV → Heap → Nat → Prop} {σ : St} : Fin res Q .normal σ = finK (AR.gets σ res) Q σ.H σ.n := by
  unfold Fin finK
  cases AR.gets σ res <;> simp
theorem finK_some {vs : List AV} {Q : AV → Heap → Nat → Prop} {H : Heap} {n : Nat} : finK (some vs) Q H n = Q (one vs) H n := rfl

end Go.Am
/-! What every walk uses. -/
namespace Go.Am
set_option linter.unusedVariables false

def ints (xs : List Int) : AV := .sl none (xs.map (.i .i64))

theorem set_at {fr : Fr} {d u : Nat} {v : AV} : (fr.set d v) u = if u = d then v else fr u := rfl
theorem put_some {fr : Fr} {d : Nat} {v : AV} : fr.put (some d) v = fr.set d v := rfl
theorem put_none {fr : Fr} {v : AV} : fr.put none v = fr := rfl
theorem ev_t {fr : Fr} {n : Nat} : (AO.t n).ev fr = fr n := rfl
theorem ev_c {fr : Fr} {v : AV} : (AO.c v).ev fr = v := rfl
theorem frOf_at {args : List AV} {d : Nat} : frOf args d = (args[d]?).getD .top := rfl
theorem upd_at {H : Heap} {t u : Nat} {b : Blk} : (H.upd t b) u = if u = t then some b else H u := rfl
theorem off_at {H : Heap} {t u : Nat} : (H.off t) u = if u = t then none else H u := rfl

theorem wrap_id {x : Int} (h1 : -9223372036854775808 ≤ x) (h2 : x < 9223372036854775808) : IntKind.i64.wrap x = x := by
  rw [IntKind.wrap_i64]; omega

theorem wrap_i64 {x : Int} {y : Nat} (h : x = y) (hy : (y : Int) < 9223372036854775808) : IntKind.i64.wrap x = y := by
  rw [h]; exact wrap_id (by omega) hy

theorem data_b {x y : Bool} {U : Prop} {H : Heap} {n : Nat} (h : x = y) : Data (fun _ => .b y) 0 U (.b x) H n := by
  subst h; exact Data.flat (.b _)

theorem data_i {k : IntKind} {x y : Int} {U : Prop} {H : Heap} {n : Nat} (h : x = y) : Data (fun _ => .i k y) 0 U (.i k x) H n := by
  subst h; exact Data.flat (.i _ _)


/-! Data of the program. -/
structure R where
  neg : Bool
  num : List Int
  den : List Int
  deriving DecidableEq

def R.av (r : R) : AV := .agg [.b r.neg, ints r.num, ints r.den]
def rats (rs : List R) : AV := .sl none (rs.map R.av)

structure M where
  rows : Int
  cols : Int
  els : List R
  deriving DecidableEq

def M.av (m : M) : AV := .agg [.i .i64 m.rows, .i .i64 m.cols, rats m.els]



def R.ok (r : R) : Prop := r.num.length < 9223372036854775808 ∧ r.den.length < 9223372036854775808
def Rs.ok (rs : List R) : Prop := rs.length < 9223372036854775808 ∧ ∀ r ∈ rs, r.ok

theorem dat_ints (xs : List Int) : Dat (ints xs) := by
  refine .sl _ fun x hx y hy => ?_
  simp only [List.mem_map] at hx
  obtain ⟨n, _, rfl⟩ := hx
  simp only [AV.cells, List.mem_singleton] at hy
  subst hy
  exact .i _ _
theorem dat_nil : ∀ x ∈ ([] : List AV), Dat x := fun x hx => by cases hx
theorem dat_cons {a : AV} {l : List AV} (h : Dat a) (hl : ∀ x ∈ l, Dat x) : ∀ x ∈ a :: l, Dat x := by
  intro x hx
  rcases List.mem_cons.1 hx with rfl | hx
  · exact h
  · exact hl x hx
theorem R.dat (r : R) : Dat r.av := .agg _ (dat_cons (.b _) (dat_cons (dat_ints _) (dat_cons (dat_ints _) dat_nil)))
theorem rats_cells {rs : List R} : ∀ x ∈ rs.map R.av, ∀ y ∈ x.cells, Dat y := by
  intro x hx y hy
  simp only [List.mem_map] at hx
  obtain ⟨r, _, rfl⟩ := hx
  exact (dat_cons (.b _) (dat_cons (dat_ints _) (dat_cons (dat_ints _) dat_nil))) y hy
theorem dat_rats (rs : List R) : Dat (rats rs) := .sl _ rats_cells
theorem M.dat (m : M) : Dat m.av := .agg _ (dat_cons (.i _ _) (dat_cons (.i _ _) (dat_cons (dat_rats _) dat_nil)))

theorem Data.dat {r : AV} {H : Heap} {n : Nat} (h : Dat r) : Data (fun _ => r) 0 True r H n := ⟨fun _ => 0, fun k k' h => by omega, fun n => h.vw⟩

/-- An own block, handed back as data. -/
theorem data_rf {H : Heap} {n t z m : Nat} {es ys : List AV} (hH : H t = some (z, es)) (he : es = ys) (hm : m = ys.length) (hd : ∀ x ∈ ys, ∀ y ∈ x.cells, Dat y) : Data (fun _ => .sl none ys) 0 True (.rf t 0 m) H n := by
  subst he; subst hm
  refine ⟨fun _ => 0, fun k k' h => by omega, fun n => ?_⟩
  refine .rf t 0 es.length z es none es trivial hH (by omega) (fun _ => trivial) (fun k hk => by cases hk) rfl ?_ ?_
  · intro j x y hx hy
    simp only [List.drop_zero, List.take_length] at hx
    rw [hx] at hy; cases hy; rfl
  · intro j x y k p q hx hy hp hq
    simp only [List.drop_zero, List.take_length] at hx
    rw [hx] at hy; cases hy
    rw [hp] at hq; cases hq
    exact (hd x (List.mem_of_getElem? hx) p (List.mem_of_getElem? hp)).vw


/-! Values that stand in one cell. -/
theorem cellOk_b {x : Bool} : cellOk (.b x : AV) = true := rfl
theorem cells_b {x : Bool} : AV.cells (.b x : AV) = [.b x] := rfl
theorem isTop_b {x : Bool} : AV.isTop (.b x : AV) = false := rfl
theorem cellOk_i {k : IntKind} {n : Int} : cellOk (.i k n : AV) = true := rfl
theorem cells_i {k : IntKind} {n : Int} : AV.cells (.i k n : AV) = [.i k n] := rfl
theorem isTop_i {k : IntKind} {n : Int} : AV.isTop (.i k n : AV) = false := rfl
theorem cellOk_s {x : ByteArray} : cellOk (.s x : AV) = true := rfl
theorem cells_s {x : ByteArray} : AV.cells (.s x : AV) = [.s x] := rfl
theorem isTop_s {x : ByteArray} : AV.isTop (.s x : AV) = false := rfl
theorem cellOk_nl  : cellOk (.nl : AV) = true := rfl
theorem cells_nl  : AV.cells (.nl : AV) = [.nl] := rfl
theorem isTop_nl  : AV.isTop (.nl : AV) = false := rfl
theorem cellOk_sl {t : Option Nat} {xs : List AV} : cellOk (.sl t xs : AV) = true := rfl
theorem cells_sl {t : Option Nat} {xs : List AV} : AV.cells (.sl t xs : AV) = [.sl t xs] := rfl
theorem isTop_sl {t : Option Nat} {xs : List AV} : AV.isTop (.sl t xs : AV) = false := rfl
theorem cellOk_rf {t s n : Nat} : cellOk (.rf t s n : AV) = true := rfl
theorem cells_rf {t s n : Nat} : AV.cells (.rf t s n : AV) = [.rf t s n] := rfl
theorem isTop_rf {t s n : Nat} : AV.isTop (.rf t s n : AV) = false := rfl
theorem cellOk_pr {e : AV} {o : Nat} : cellOk (.pr e o : AV) = true := rfl
theorem cells_pr {e : AV} {o : Nat} : AV.cells (.pr e o : AV) = [.pr e o] := rfl
theorem isTop_pr {e : AV} {o : Nat} : AV.isTop (.pr e o : AV) = false := rfl
theorem cellOk_ad {t i o : Nat} : cellOk (.ad t i o : AV) = true := rfl
theorem cells_ad {t i o : Nat} : AV.cells (.ad t i o : AV) = [.ad t i o] := rfl
theorem isTop_ad {t i o : Nat} : AV.isTop (.ad t i o : AV) = false := rfl
theorem cellOk_fn {f : Nat} {cs : List AV} : cellOk (.fn f cs : AV) = true := rfl
theorem cells_fn {f : Nat} {cs : List AV} : AV.cells (.fn f cs : AV) = [.fn f cs] := rfl
theorem isTop_fn {f : Nat} {cs : List AV} : AV.isTop (.fn f cs : AV) = false := rfl
theorem cellOk_ints {xs : List Int} : cellOk (ints xs : AV) = true := rfl
theorem cells_ints {xs : List Int} : AV.cells (ints xs : AV) = [ints xs] := rfl
theorem isTop_ints {xs : List Int} : AV.isTop (ints xs : AV) = false := rfl
theorem cellOk_rats {xs : List R} : cellOk (rats xs : AV) = true := rfl
theorem cells_rats {xs : List R} : AV.cells (rats xs : AV) = [rats xs] := rfl
theorem isTop_rats {xs : List R} : AV.isTop (rats xs : AV) = false := rfl
theorem cells_agg {cs : List AV} : AV.cells (.agg cs) = cs := rfl
theorem isTop_agg {cs : List AV} : AV.isTop (.agg cs) = false := rfl
theorem cells_R {r : R} : AV.cells r.av = [.b r.neg, ints r.num, ints r.den] := rfl
theorem isTop_R {r : R} : AV.isTop r.av = false := rfl

end Go.Am
/-! Calls by contract, memory of a call's own, loops that keep the slots that they do not write. -/
namespace Go.Am
set_option linter.unusedVariables false

section calls
variable {P : Program} {ks : List KF} {Q : AEx → St → Prop} {σ : St} {r : RT} {raw : Bool} {f : Nat} {args args' : List AV} {d : Option Nat} {fl : List Nat}

theorem tokKept_refl {H : Heap} {v : AV} : tokKept H H v := by cases v <;> simp [tokKept]

/-- A call from data to data. -/
theorem goCall_pc {R : Nat → AV} {c : Nat} {U : Prop} {S : Nat → Prop} (h : PC P f args' R c U) (hv : Vws σ.H S args args') (hU : U → ∀ t, ¬ S t) (hk : goR P r ks Q ⟨σ.fr.put d (R σ.n), σ.H, σ.n + c⟩) :
    goCall P raw f args d fl r ks Q σ := by
  unfold goCall
  cases raw with
  | false => exact ⟨args', R, c, S, U, h, hv, hU, hk⟩
  | true =>
    refine MC.mono (pcall h hv hU) ?_
    rintro v H' n' ⟨rfl, rfl, rfl⟩
    exact ⟨fun s _ => tokKept_refl, hk⟩

section
variable {fr : Fr} {H : Heap} {n : Nat} {d : Nat}
/-- Fresh or flat results: every own block may be looked into. -/
theorem goCall_fc {R : Nat → AV} {c : Nat} (h : PC P f args' R c False) (hv : Vws H (fun _ => True) args args') (hk : goR P r ks Q ⟨fr.set d (R n), H, n + c⟩) : goCall P raw f args (some d) fl r ks Q ⟨fr, H, n⟩ :=
  goCall_pc h hv (fun h => h.elim) hk
theorem goCall_sc {v : AV} (h : SC P f args' v) (hv : Vws H (fun _ => True) args args') (hk : goR P r ks Q ⟨fr.set d v, H, n⟩) : goCall P raw f args (some d) fl r ks Q ⟨fr, H, n⟩ :=
  goCall_pc h hv (fun h => h.elim) hk
theorem goCall_dcv {v : AV} (h : DC P f args' v) (hv : Vws H (fun _ => False) args args') (hk : goR P r ks Q ⟨fr.set d v, H, n⟩) : goCall P raw f args (some d) fl r ks Q ⟨fr, H, n⟩ :=
  goCall_pc h hv (fun _ _ h => h) hk
/-- Any contract. -/
theorem goCall_mc {Q' : AV → Heap → Nat → Prop} (h : MC P f args H n Q') (hk : ∀ v H' n', Q' v H' n' → (∀ s ∈ fl, tokKept H H' (fr s)) ∧ goR P r ks Q ⟨fr.set d v, H', n'⟩) : goCall P true f args (some d) fl r ks Q ⟨fr, H, n⟩ := by
  unfold goCall
  exact MC.mono h fun v H' n' hq => hk v H' n' hq
theorem goCall_mc0 {Q' : AV → Heap → Nat → Prop} (h : MC P f args H n Q') (hk : ∀ v H' n', Q' v H' n' → goR P r ks Q ⟨fr.set d v, H', n'⟩) : goCall P true f args (some d) [] r ks Q ⟨fr, H, n⟩ :=
  goCall_mc h (fun v H' n' hq => And.intro (fun s hs => nomatch hs) (hk v H' n' hq))
theorem goCall_mcn {Q' : AV → Heap → Nat → Prop} (h : MC P f args H n Q') (hk : ∀ v H' n', Q' v H' n' → goR P r ks Q ⟨fr, H', n'⟩) : goCall P true f args none [] r ks Q ⟨fr, H, n⟩ := by
  unfold goCall
  exact MC.mono h fun v H' n' hq => And.intro (fun s hs => nomatch hs) (hk v H' n' hq)
end
end calls

/-! Arguments as data. -/
section view
variable {H : Heap} {S : Nat → Prop} {U : Prop} {T : Nat → Nat → Prop}
theorem vws_nil : Vws H S [] [] := ⟨rfl, fun j x y h => by simp at h⟩
theorem vws_cons {x y : AV} {xs ys : List AV} (h : Vw H S (fun _ _ => False) True x y) (hs : Vws H S xs ys) : Vws H S (x :: xs) (y :: ys) := by
  refine ⟨by simp [hs.1], fun j a b ha hb => ?_⟩
  cases j with
  | zero => simp at ha hb; subst ha; subst hb; exact h
  | succ j => exact hs.2 j a b (by simpa using ha) (by simpa using hb)
/-- Lists seen part by part. -/
def VwL (H : Heap) (S : Nat → Prop) (T : Nat → Nat → Prop) (U : Prop) (xs ys : List AV) : Prop := xs.length = ys.length ∧ ∀ (j : Nat) (x y : AV), xs[j]? = some x → ys[j]? = some y → Vw H S T U x y
theorem vwl_nil : VwL H S T U [] [] := ⟨rfl, fun j x y h => by simp at h⟩
theorem vwl_cons {x y : AV} {xs ys : List AV} (h : Vw H S T U x y) (hs : VwL H S T U xs ys) : VwL H S T U (x :: xs) (y :: ys) := by
  refine ⟨by simp [hs.1], fun j a b ha hb => ?_⟩
  cases j with
  | zero => simp at ha hb; subst ha; subst hb; exact h
  | succ j => exact hs.2 j a b (by simpa using ha) (by simpa using hb)
theorem vw_agg {xs ys : List AV} (h : VwL H S T U xs ys) : Vw H S T U (.agg xs) (.agg ys) := .agg _ _ h.1 h.2
theorem vw_tup {xs ys : List AV} (h : VwL H S T U xs ys) : Vw H S T U (.tup xs) (.tup ys) := .tup _ _ h.1 h.2
theorem vw_fn {f : Nat} {xs ys : List AV} (h : VwL H S T U xs ys) : Vw H S T U (.fn f xs) (.fn f ys) := .fn _ _ _ h.1 h.2
theorem vw_bb {x : Bool} : Vw H S T U (.b x) (.b x) := .b x
theorem vw_ii {k : IntKind} {x : Int} : Vw H S T U (.i k x) (.i k x) := .i k x
theorem vw_ss {x : ByteArray} : Vw H S T U (.s x) (.s x) := .s x
theorem vw_nn : Vw H S T U .nl .nl := .nl
theorem vw_n0 {u : Option Nat} : Vw H S T U .nl (.sl u []) := .nlsl u

/-- Lists of elements that hold no memory. -/
theorem vwc_flat {α : Type} {g : α → AV} (hg : ∀ a, Vw H S T U (g a) (g a)) (hc : ∀ a, (g a).cells = [g a]) {xs : List α} :
    ∀ (j : Nat) (x y : AV) (k : Nat) (p q : AV), (xs.map g)[j]? = some x → (xs.map g)[j]? = some y → x.cells[k]? = some p → y.cells[k]? = some q → Vw H S T U p q := by
  intro j x y k p q hx hy hp hq
  rw [hx] at hy; cases hy
  simp only [List.getElem?_map, Option.map_eq_some_iff] at hx
  obtain ⟨a, _, rfl⟩ := hx
  rw [hc] at hp hq
  rw [hp] at hq; cases hq
  cases k with
  | zero => simp at hp; subst hp; exact hg a
  | succ k => simp at hp

theorem vw_sl_flat {α : Type} {g : α → AV} (hg : ∀ a, Vw H S (fun _ _ => False) True (g a) (g a)) (hc : ∀ a, (g a).cells = [g a]) {u : Option Nat} {xs : List α} : Vw H S (fun _ _ => False) True (.sl u (xs.map g)) (.sl none (xs.map g)) := by
  refine .sl u none _ _ (fun _ => trivial) (fun k hk => by cases hk) rfl ?_ (vwc_flat hg hc)
  intro j x y hx hy; rw [hx] at hy; cases hy; rfl
theorem vw_ints {u : Option Nat} {xs : List Int} : Vw H S (fun _ _ => False) True (.sl u (xs.map (.i .i64))) (ints xs) := vw_sl_flat (fun a => .i _ _) (fun a => rfl)
theorem vw_ints' {u : Option Nat} {xs : List Int} : Vw H S (fun _ _ => False) True (.sl u (xs.map (.i .i64))) (.sl none (xs.map (.i .i64))) := vw_ints
theorem vw_ints0 {xs : List Int} : Vw H S (fun _ _ => False) True (ints xs) (ints xs) := vw_ints
theorem vw_ints_nl {xs : List Int} (h : xs = []) : Vw H S (fun _ _ => False) True .nl (ints xs) := by subst h; exact .nlsl _

/-- An own block seen as data. -/
theorem vw_rf {t s n z : Nat} {es ys : List AV} (hH : H t = some (z, es)) (hS : S t) (hn : s + n ≤ es.length) (hl : ys.length = n)
    (hz : ∀ (j : Nat) (x y : AV), ((es.drop s).take n)[j]? = some x → ys[j]? = some y → x.cells.length = y.cells.length)
    (h : ∀ (j : Nat) (x y : AV) (k : Nat) (p q : AV), ((es.drop s).take n)[j]? = some x → ys[j]? = some y → x.cells[k]? = some p → y.cells[k]? = some q → Vw H S (fun _ _ => False) True p q) : Vw H S (fun _ _ => False) True (.rf t s n) (.sl none ys) :=
  .rf t s n z es none ys hS hH hn (fun _ => trivial) (fun k hk => by cases hk) hl hz h

theorem vw_rf_ints {t n z : Nat} {es : List AV} {xs : List Int} (hH : H t = some (z, es)) (hS : S t) (hl : n = xs.length) (he : es.take n = xs.map (.i .i64)) : Vw H S (fun _ _ => False) True (.rf t 0 n) (ints xs) := by
  subst hl
  have hlen : xs.length ≤ es.length := by
    have := congrArg List.length he
    simp only [List.length_take, List.length_map] at this
    omega
  refine vw_rf hH hS (by omega) (by simp) ?_ ?_
  · intro j x y hx hy
    rw [List.drop_zero, he] at hx
    rw [hx] at hy; cases hy; rfl
  · intro j x y k p q hx hy
    rw [List.drop_zero, he] at hx
    exact vwc_flat (H := H) (S := S) (T := fun _ _ => False) (U := True) (g := AV.i .i64) (fun a => .i _ _) (fun a => rfl) j x y k p q hx hy
end view

/-! Loops. -/
def optB : Option Nat → Nat
  | some d => 2 ^ d
  | none => 0
def modsL : List AI → Nat
  | [] => 0
  | i :: r => optB i.d ||| modsL r
def modsD : List (Nat × AI) → Nat
  | [] => 0
  | (_, i) :: r => optB i.d ||| modsD r
/-- The slots that a piece of code writes, as bits. -/
def mods : AC → Nat
  | .ops l => modsL l
  | .opsd l => modsD l
  | .seq a b => mods a ||| mods b
  | .cond _ x y => mods x ||| mods y
  | .block _ x => mods x
  | .loop x => mods x
  | _ => 0

/-- The slots of m hold what they held. -/
def Kept (m : Nat) (fr fr' : Fr) : Prop := ∀ d, m.testBit d = false → fr' d = fr d
theorem Kept.refl (m : Nat) (fr : Fr) : Kept m fr fr := fun _ _ => rfl
theorem Kept.trans {m : Nat} {a b c : Fr} (h : Kept m a b) (k : Kept m b c) : Kept m a c := fun d hd => (k d hd).trans (h d hd)
theorem Kept.left {m m' : Nat} {a b : Fr} (h : Kept m a b) : Kept (m ||| m') a b := fun d hd => h d (by rw [Nat.testBit_or] at hd; simp at hd; exact hd.1)
theorem Kept.right {m m' : Nat} {a b : Fr} (h : Kept m a b) : Kept (m' ||| m) a b := fun d hd => h d (by rw [Nat.testBit_or] at hd; simp at hd; exact hd.2)
theorem kept_put {fr : Fr} {d : Option Nat} {v : AV} : Kept (optB d) fr (fr.put d v) := by
  intro u hu
  cases d with
  | none => rfl
  | some k =>
    rw [Fr.put_app]
    by_cases e : k = u
    · subst e; simp [optB, Nat.testBit_two_pow_self] at hu
    · simp [e]

theorem awpC_kept {P : Program} {raw : Bool} {f : Nat} {args : List AV} {d : Option Nat} {fl : List Nat} {σ : St} {K : St → Prop} (h : awpC P raw f args d fl σ K) : awpC P raw f args d fl σ (fun σ' => K σ' ∧ Kept (optB d) σ.fr σ'.fr) := by
  cases raw with
  | false =>
    obtain ⟨args', R, c, S, U, h1, h2, h3, h4⟩ := h
    exact ⟨args', R, c, S, U, h1, h2, h3, h4, kept_put⟩
  | true => exact MC.mono h fun v H' n' hq => ⟨hq.1, hq.2, kept_put⟩

theorem awpX_kept {P : Program} {i : AI} {tok : Nat} {σ : St} {K : St → Prop} (h : awpX P i tok σ K) : awpX P i tok σ (fun σ' => K σ' ∧ Kept (optB i.d) σ.fr σ'.fr) := by
  unfold awpX at h ⊢
  split at h
  · exact awpC_kept h
  · split at h
    · exact awpC_kept h
    · exact h.elim
  · split at h
    · exact ⟨h.1, h.2, kept_put⟩
    · exact h.elim

theorem awpI_kept {P : Program} {i : AI} {tok : Nat} {σ : St} {K : St → Prop} (h : awpI P i tok σ K) : awpI P i tok σ (fun σ' => K σ' ∧ Kept (optB i.d) σ.fr σ'.fr) := by
  cases hg : i.g with
  | none => simp only [awpI, hg] at h ⊢; exact awpX_kept h
  | some p =>
    obtain ⟨s, want⟩ := p
    simp only [awpI, hg] at h ⊢
    cases hv : σ.fr s with
    | b x =>
      simp only [hv] at h ⊢
      by_cases e : x = want
      · rw [if_pos e] at h ⊢; exact awpX_kept h
      · rw [if_neg e] at h ⊢; exact ⟨h, kept_put⟩
    | tup l =>
      cases l with
      | nil => simp only [hv] at h ⊢; exact ⟨h, kept_put⟩
      | cons _ _ => simp only [hv] at h
    | _ => simp only [hv] at h

theorem awpOps_kept {P : Program} {K : St → Prop} : ∀ {l : List AI} {tok : Nat} {σ : St}, awpOps P l tok σ K → awpOps P l tok σ (fun σ' => K σ' ∧ Kept (modsL l) σ.fr σ'.fr)
  | [], _, σ, h => ⟨h, Kept.refl _ _⟩
  | i :: r, tok, σ, h => awpI_imp (fun σ1 ⟨h1, h2⟩ => awpOps_mono (fun σ2 ⟨a, b⟩ => ⟨a, h2.left.trans b.right⟩) (awpOps_kept h1)) (awpI_kept h)

theorem awpD_kept {P : Program} {n0 : Nat} {K : St → Prop} : ∀ {l : List (Nat × AI)} {σ : St}, awpD P n0 l σ K → awpD P n0 l σ (fun σ' => K σ' ∧ Kept (modsD l) σ.fr σ'.fr)
  | [], σ, h => ⟨h, Kept.refl _ _⟩
  | (k, i) :: r, σ, h => awpI_imp (fun σ1 ⟨h1, h2⟩ => awpD_mono (fun σ2 ⟨a, b⟩ => ⟨a, h2.left.trans b.right⟩) (awpD_kept h1)) (awpI_kept h)

/-- Code keeps the slots that it does not write. -/
theorem awp_kept {P : Program} : ∀ {c : AC} {Q : AEx → St → Prop} {σ : St}, awp P c Q σ → awp P c (fun e σ' => Q e σ' ∧ Kept (mods c) σ.fr σ'.fr) σ := by
  intro c
  induction c with
  | skip => intro Q σ h; exact ⟨h, Kept.refl _ _⟩
  | ops l => intro Q σ h; exact awpOps_kept h
  | opsd l => intro Q σ h; exact awpD_kept h
  | seq a b iha ihb =>
    intro Q σ h
    simp only [awp] at h ⊢
    refine awp_mono (fun e σ1 hq => ?_) (iha h)
    obtain ⟨h1, h2⟩ := hq
    cases e with
    | normal => exact awp_mono (fun e σ2 hq => ⟨hq.1, h2.left.trans hq.2.right⟩) (ihb h1)
    | exit id => exact ⟨h1, h2.left⟩
    | ret => exact ⟨h1, h2.left⟩
  | cond c x y ihx ihy =>
    intro Q σ h
    simp only [awp] at h ⊢
    split at h
    · rename_i q hq
      cases q
      · simp only [Bool.false_eq_true, if_false] at h ⊢; exact awp_mono (fun e σ1 hq => ⟨hq.1, hq.2.right⟩) (ihy h)
      · simp only [if_true] at h ⊢; exact awp_mono (fun e σ1 hq => ⟨hq.1, hq.2.left⟩) (ihx h)
    · exact h.elim
  | block id x ih =>
    intro Q σ h
    simp only [awp] at h ⊢
    refine awp_mono (fun e σ1 hq => ?_) (ih h)
    obtain ⟨h1, h2⟩ := hq
    cases e with
    | normal => exact ⟨h1, h2⟩
    | exit id' =>
      simp only at h1 ⊢
      split at h1
      · rename_i e; rw [if_pos e]; exact ⟨h1, h2⟩
      · rename_i e; rw [if_neg e]; exact ⟨h1, h2⟩
    | ret => exact ⟨h1, h2⟩
  | loop x ih =>
    intro Q σ h
    obtain ⟨I, m, h0, hr⟩ := h
    refine ⟨fun k σ' => I k σ' ∧ Kept (mods x) σ.fr σ'.fr, m, ⟨h0, Kept.refl _ _⟩, fun k σ' hI => awp_mono (fun e σ'' hq => ?_) (ih (hr k σ' hI.1))⟩
    obtain ⟨h1, h2⟩ := hq
    cases e with
    | normal => obtain ⟨k', a, b⟩ := h1; exact ⟨k', a, b, hI.2.trans h2⟩
    | exit id => exact ⟨h1, hI.2.trans h2⟩
    | ret => exact ⟨h1, hI.2.trans h2⟩
  | exit id => intro Q σ h; exact ⟨h, Kept.refl _ _⟩
  | ret => intro Q σ h; exact ⟨h, Kept.refl _ _⟩

/-- The slots of m by one frame, the others by another. -/
def mix (m : Nat) (fr fr0 : Fr) : Fr := fun d => if (m >>> d) % 2 = 1 then fr d else fr0 d
theorem mix_at {m : Nat} {fr fr0 : Fr} {d : Nat} : mix m fr fr0 d = if (m >>> d) % 2 = 1 then fr d else fr0 d := rfl
theorem shr_bit {m d : Nat} : (m >>> d) % 2 = 1 ↔ m.testBit d = true := by
  rw [Nat.testBit_eq_decide_div_mod_eq, Nat.shiftRight_eq_div_pow]; simp
theorem Kept.mix {m : Nat} {fr0 fr : Fr} (h : Kept m fr0 fr) : fr = mix m fr fr0 := by
  funext d
  unfold Am.mix
  split
  · rfl
  · rename_i hd
    rw [shr_bit] at hd
    exact h d (by simpa using hd)

theorem goC_dec {P : Program} {p : Prop} [Decidable p] {x y : AC} {ks : List KF} {Q : AEx → St → Prop} {σ : St} (h1 : p → go P x ks Q σ) (h2 : ¬ p → go P y ks Q σ) : goC P (.b (decide p)) x y ks Q σ := by
  by_cases h : p
  · simp only [h, decide_true]; exact h1 h
  · simp only [h, decide_false]; exact h2 h
theorem goC_b {P : Program} {b : Bool} {x y : AC} {ks : List KF} {Q : AEx → St → Prop} {σ : St} (h1 : b = true → go P x ks Q σ) (h2 : b = false → go P y ks Q σ) : goC P (.b b) x y ks Q σ := by
  cases b
  · exact h2 rfl
  · exact h1 rfl

/-- A loop: what holds at the top of each round of the slots that the loop writes. -/
theorem go_loopm {P : Program} {ks : List KF} {Q : AEx → St → Prop} {fr0 : Fr} {H0 : Heap} {n0 : Nat} {x : AC} (M : Nat) (hM : mods x = M) (I : Nat → Fr → Heap → Nat → Prop) (m : Nat) (h0 : I m fr0 H0 n0)
    (h : ∀ k fr H n, I k fr H n → go P x (.lp (fun σ'' => ∃ k', k' < k ∧ I k' σ''.fr σ''.H σ''.n) :: ks) Q ⟨mix M fr fr0, H, n⟩) : go P (.loop x) ks Q ⟨fr0, H0, n0⟩ := by
  subst hM
  refine go_loop (fun k σ' => I k σ'.fr σ'.H σ'.n ∧ Kept (mods x) fr0 σ'.fr) m ⟨h0, Kept.refl _ _⟩ ?_
  rintro k ⟨fr, H, n⟩ ⟨hI, hK⟩
  have hx := h k fr H n hI
  rw [← hK.mix] at hx
  refine awp_mono (fun e σ'' hq => ?_) (awp_kept hx)
  obtain ⟨h1, h2⟩ := hq
  cases e with
  | normal => obtain ⟨k', a, b⟩ := h1; exact ⟨k', a, b, hK.trans h2⟩
  | exit id => exact h1
  | ret => exact h1

/-- A piece of code, then what stands behind it. -/
theorem go_cut {P : Program} {a b : AC} {ks : List KF} {Q : AEx → St → Prop} {fr0 : Fr} {H0 : Heap} {n0 : Nat} (M : Nat) (hM : mods a = M) (J : Fr → Heap → Nat → Prop)
    (h1 : go P a (.lp (fun s => J s.fr s.H s.n) :: ks) Q ⟨fr0, H0, n0⟩) (h3 : ∀ fr H n, J fr H n → go P b ks Q ⟨mix M fr fr0, H, n⟩) : go P (.seq a b) ks Q ⟨fr0, H0, n0⟩ := by
  subst hM
  rw [go_seq]
  refine awp_mono (fun e σ'' hq => ?_) (awp_kept h1)
  obtain ⟨h4, h5⟩ := hq
  cases e with
  | normal =>
    have := h3 σ''.fr σ''.H σ''.n h4
    rw [← h5.mix] at this
    exact this
  | exit id => exact h4
  | ret => exact h4

/-- To stop ahead of what follows. -/
theorem go_hold {P : Program} {a b : AC} {ks : List KF} {Q : AEx → St → Prop} {σ : St} (h : ∀ R, R = b → go P (.seq a R) ks Q σ) : go P (.seq a b) ks Q σ := h b rfl

/-- Two branches that meet again. -/
theorem goC_join {P : Program} {p : Prop} [Decidable p] {x y rest : AC} {ks : List KF} {Q : AEx → St → Prop} {fr0 : Fr} {H0 : Heap} {n0 : Nat} (M : Nat) (hM : mods x ||| mods y = M) (J : Fr → Heap → Nat → Prop)
    (h1 : p → go P x (.lp (fun s => J s.fr s.H s.n) :: ks) Q ⟨fr0, H0, n0⟩) (h2 : ¬ p → go P y (.lp (fun s => J s.fr s.H s.n) :: ks) Q ⟨fr0, H0, n0⟩) (h3 : ∀ fr H n, J fr H n → go P rest ks Q ⟨mix M fr fr0, H, n⟩) : goC P (.b (decide p)) x y (.seq rest :: ks) Q ⟨fr0, H0, n0⟩ := by
  subst hM
  have fin : ∀ (c : AC) (m : Nat), (∀ σ' : St, Kept (mods c) fr0 σ'.fr → Kept m fr0 σ'.fr) → m = mods x ||| mods y → go P c (.lp (fun s => J s.fr s.H s.n) :: ks) Q ⟨fr0, H0, n0⟩ → go P c (.seq rest :: ks) Q ⟨fr0, H0, n0⟩ := by
    rintro c m hk rfl hg
    refine awp_mono (fun e σ'' hq => ?_) (awp_kept hg)
    obtain ⟨h4, h5⟩ := hq
    cases e with
    | normal =>
      have := h3 σ''.fr σ''.H σ''.n h4
      rw [← (hk _ h5).mix] at this
      exact this
    | exit id => exact h4
    | ret => exact h4
  by_cases h : p
  · simp only [h, decide_true]
    exact fin x _ (fun _ hk => hk.left) rfl (h1 h)
  · simp only [h, decide_false]
    exact fin y _ (fun _ hk => hk.right) rfl (h2 h)

end Go.Am
/-! The lemmas of the walk, gathered in one. -/
namespace Go.Am
set_option linter.unusedVariables false
theorem one1 {v : AV} : one [v] = v := rfl
theorem one2 {v u : AV} {l : List AV} : one (v :: u :: l) = .tup (v :: u :: l) := rfl
theorem beqI {a b : Int} : (a == b) = decide (a = b) := rfl
theorem bneI {a b : Int} : (a != b) = decide (¬ a = b) := by by_cases h : a = b <;> simp [h]
theorem decT {p : Prop} [Decidable p] (h : p) : decide p = true := decide_eq_true h
theorem decF {p : Prop} [Decidable p] (h : ¬ p) : decide p = false := decide_eq_false h
theorem iteT {α : Type} {c : Prop} [Decidable c] {a b : Option α} (h : c) : (if c then a else b) = a := if_pos h
theorem iteF {α : Type} {c : Prop} [Decidable c] {a b : Option α} (h : ¬ c) : (if c then a else b) = b := if_neg h
theorem wrap_ok {x : Int} (h1 : -9223372036854775808 ≤ x) (h2 : x < 9223372036854775808) : IntKind.i64.wrap x = x := wrap_id h1 h2
section
variable {P : Program} {ks : List KF} {Q : AEx → St → Prop} {σ : St} {r : RT} {tok n0 : Nat} {i : AI} {fr : Fr} {H H' : Heap} {n : Nat} {fl : List Nat} {d : Option Nat} {g : Option (Nat × Bool)}
theorem goG_dec {p : Prop} [Decidable p] {w : Bool} (h1 : p → goG P (.b true) w i tok r ks Q σ) (h2 : ¬ p → goG P (.b false) w i tok r ks Q σ) : goG P (.b (decide p)) w i tok r ks Q σ := by
  by_cases h : p
  · rw [decide_eq_true h]; exact h1 h
  · rw [decide_eq_false h]; exact h2 h
theorem goG_bb {b : Bool} {w : Bool} (h1 : b = true → goG P (.b true) w i tok r ks Q σ) (h2 : b = false → goG P (.b false) w i tok r ks Q σ) : goG P (.b b) w i tok r ks Q σ := by
  cases b
  · exact h2 rfl
  · exact h1 rfl
theorem w_ops {l : List AI} : go P (.ops l) ks Q ⟨fr, H, n⟩ = goO P l n ks Q ⟨fr, H, n + l.length⟩ := rfl
theorem w_opsd {l : List (Nat × AI)} : go P (.opsd l) ks Q ⟨fr, H, n⟩ = goD P l n ks Q ⟨fr, H, n + l.length⟩ := rfl
theorem w_cond {c : AO} {x y : AC} : go P (.cond c x y) ks Q ⟨fr, H, n⟩ = goC P (c.ev fr) x y ks Q ⟨fr, H, n⟩ := go_cond
theorem w_cons_g {op : AOp} {l : List AI} {s : Nat} {b : Bool} : goO P (⟨d, op, some (s, b), fl⟩ :: l) tok ks Q ⟨fr, H, n⟩ = goG P (fr s) b ⟨d, op, none, fl⟩ tok (.o l (tok + 1)) ks Q ⟨fr, H, n⟩ := goO_cons_g
theorem w_dcons_g {op : AOp} {k : Nat} {l : List (Nat × AI)} {s : Nat} {b : Bool} : goD P ((k, ⟨d, op, some (s, b), fl⟩) :: l) n0 ks Q ⟨fr, H, n⟩ = goG P (fr s) b ⟨d, op, none, fl⟩ (n0 + k) (.d l n0) ks Q ⟨fr, H, n⟩ := goD_cons_g
theorem w_tf {d : Nat} {op : AOp} : goG P (.b true) false ⟨some d, op, g, fl⟩ tok r ks Q ⟨fr, H, n⟩ = goR P r ks Q ⟨fr.set d (.tup []), H, n⟩ := rfl
theorem w_ft {d : Nat} {op : AOp} : goG P (.b false) true ⟨some d, op, g, fl⟩ tok r ks Q ⟨fr, H, n⟩ = goR P r ks Q ⟨fr.set d (.tup []), H, n⟩ := rfl
theorem w_tu {d : Nat} {op : AOp} {w : Bool} : goG P (.tup []) w ⟨some d, op, g, fl⟩ tok r ks Q ⟨fr, H, n⟩ = goR P r ks Q ⟨fr.set d (.tup []), H, n⟩ := rfl
theorem w_tu0 {op : AOp} {w : Bool} : goG P (.tup []) w ⟨none, op, g, fl⟩ tok r ks Q ⟨fr, H, n⟩ = goR P r ks Q ⟨fr, H, n⟩ := rfl
theorem w_tf0 {op : AOp} : goG P (.b true) false ⟨none, op, g, fl⟩ tok r ks Q ⟨fr, H, n⟩ = goR P r ks Q ⟨fr, H, n⟩ := rfl
theorem w_ft0 {op : AOp} : goG P (.b false) true ⟨none, op, g, fl⟩ tok r ks Q ⟨fr, H, n⟩ = goR P r ks Q ⟨fr, H, n⟩ := rfl
theorem w_some {v : AV} {d : Nat} : goV P (some (v, H')) [] (some d) r ks Q ⟨fr, H, n⟩ = goR P r ks Q ⟨fr.set d v, H', n⟩ := by simp [goV]; rfl
theorem w_some0 {v : AV} : goV P (some (v, H')) [] none r ks Q ⟨fr, H, n⟩ = goR P r ks Q ⟨fr, H', n⟩ := by simp [goV]; rfl
theorem w_some_fl {v : AV} {d : Nat} {s : Nat} {fl : List Nat} : goV P (some (v, H')) (s :: fl) (some d) r ks Q ⟨fr, H, n⟩ = ((∀ s' ∈ s :: fl, tokKept H H' (fr s')) ∧ goR P r ks Q ⟨fr.set d v, H', n⟩) := rfl
theorem w_some_fl0 {v : AV} {s : Nat} {fl : List Nat} : goV P (some (v, H')) (s :: fl) none r ks Q ⟨fr, H, n⟩ = ((∀ s' ∈ s :: fl, tokKept H H' (fr s')) ∧ goR P r ks Q ⟨fr, H', n⟩) := rfl
theorem w_call {raw : Bool} {f : Nat} {args : List AO} : goI P ⟨d, .call raw f args, g, fl⟩ tok r ks Q ⟨fr, H, n⟩ = goCall P raw f (args.map (·.ev fr)) d fl r ks Q ⟨fr, H, n⟩ := rfl
theorem w_callv {raw : Bool} {t : Nat} {args : List AO} : goI P ⟨d, .callv raw t args, g, fl⟩ tok r ks Q ⟨fr, H, n⟩ = goCallv P raw (fr t) (args.map (·.ev fr)) d fl r ks Q ⟨fr, H, n⟩ := goI_callv
theorem w_fret {res : List AR} {Q : AV → Heap → Nat → Prop} : Fin res Q .ret ⟨fr, H, n⟩ = finK (AR.gets ⟨fr, H, n⟩ res) Q H n := fin_ret
theorem w_fnormal {res : List AR} {Q : AV → Heap → Nat → Prop} : Fin res Q .normal ⟨fr, H, n⟩ = finK (AR.gets ⟨fr, H, n⟩ res) Q H n := fin_normal
theorem w_gett {k : Nat} : AR.get ⟨fr, H, n⟩ (.t k) = some (fr k) := rfl
theorem w_getc {s : Option Nat} {a : Nat} : AR.get ⟨fr, H, n⟩ (.cell s a) = match look H (fr a) with | some (e, o) => partOf s e.cells o | none => none := rfl
theorem w_lp {J : St → Prop} : goE P .normal (.lp J :: ks) Q σ = J σ := rfl
theorem w_mv {x : AO} : goI P ⟨d, .mv x, g, fl⟩ tok r ks Q ⟨fr, H, n⟩ = goV P (AOp.run fr H tok (.mv x)) fl d r ks Q ⟨fr, H, n⟩ := rfl
theorem w_pick {c a b : AO} : goI P ⟨d, .pick c a b, g, fl⟩ tok r ks Q ⟨fr, H, n⟩ = goV P (AOp.run fr H tok (.pick c a b)) fl d r ks Q ⟨fr, H, n⟩ := rfl
theorem w_new {z : AV} : goI P ⟨d, .new z, g, fl⟩ tok r ks Q ⟨fr, H, n⟩ = goV P (AOp.run fr H tok (.new z)) fl d r ks Q ⟨fr, H, n⟩ := rfl
theorem w_box {x : AO} : goI P ⟨d, .box x, g, fl⟩ tok r ks Q ⟨fr, H, n⟩ = goV P (AOp.run fr H tok (.box x)) fl d r ks Q ⟨fr, H, n⟩ := rfl
theorem w_bld {z : List AV} {ps : List (Nat × Nat × AO)} : goI P ⟨d, .bld z ps, g, fl⟩ tok r ks Q ⟨fr, H, n⟩ = goV P (AOp.run fr H tok (.bld z ps)) fl d r ks Q ⟨fr, H, n⟩ := rfl
theorem w_bsl {z : AV} {m : Nat} {ps : List (Nat × AO)} : goI P ⟨d, .bsl z m ps, g, fl⟩ tok r ks Q ⟨fr, H, n⟩ = goV P (AOp.run fr H tok (.bsl z m ps)) fl d r ks Q ⟨fr, H, n⟩ := rfl
theorem w_ld {s : Option Nat} {a : AO} : goI P ⟨d, .ld s a, g, fl⟩ tok r ks Q ⟨fr, H, n⟩ = goV P (AOp.run fr H tok (.ld s a)) fl d r ks Q ⟨fr, H, n⟩ := rfl
theorem w_st {s : Option Nat} {a v : AO} : goI P ⟨d, .st s a v, g, fl⟩ tok r ks Q ⟨fr, H, n⟩ = goV P (AOp.run fr H tok (.st s a v)) fl d r ks Q ⟨fr, H, n⟩ := rfl
theorem w_nck {x : AO} : goI P ⟨d, .nck x, g, fl⟩ tok r ks Q ⟨fr, H, n⟩ = goV P (AOp.run fr H tok (.nck x)) fl d r ks Q ⟨fr, H, n⟩ := rfl
theorem w_fad {o : Nat} {a : AO} : goI P ⟨d, .fad o a, g, fl⟩ tok r ks Q ⟨fr, H, n⟩ = goV P (AOp.run fr H tok (.fad o a)) fl d r ks Q ⟨fr, H, n⟩ := rfl
theorem w_fld {s : Option Nat} {o : Nat} {x : AO} : goI P ⟨d, .fld s o x, g, fl⟩ tok r ks Q ⟨fr, H, n⟩ = goV P (AOp.run fr H tok (.fld s o x)) fl d r ks Q ⟨fr, H, n⟩ := rfl
theorem w_iad {z : Nat} {x j : AO} : goI P ⟨d, .iad z x j, g, fl⟩ tok r ks Q ⟨fr, H, n⟩ = goV P (AOp.run fr H tok (.iad z x j)) fl d r ks Q ⟨fr, H, n⟩ := rfl
theorem w_aad {m z : Nat} {x j : AO} : goI P ⟨d, .aad m z x j, g, fl⟩ tok r ks Q ⟨fr, H, n⟩ = goV P (AOp.run fr H tok (.aad m z x j)) fl d r ks Q ⟨fr, H, n⟩ := rfl
theorem w_sidx {x j : AO} : goI P ⟨d, .sidx x j, g, fl⟩ tok r ks Q ⟨fr, H, n⟩ = goV P (AOp.run fr H tok (.sidx x j)) fl d r ks Q ⟨fr, H, n⟩ := rfl
theorem w_bin {op : BinOp} {x y : AO} : goI P ⟨d, .bin op x y, g, fl⟩ tok r ks Q ⟨fr, H, n⟩ = goV P (AOp.run fr H tok (.bin op x y)) fl d r ks Q ⟨fr, H, n⟩ := rfl
theorem w_beq {op : Bool} {x y : AO} : goI P ⟨d, .beq op x y, g, fl⟩ tok r ks Q ⟨fr, H, n⟩ = goV P (AOp.run fr H tok (.beq op x y)) fl d r ks Q ⟨fr, H, n⟩ := rfl
theorem w_not {x : AO} : goI P ⟨d, .not x, g, fl⟩ tok r ks Q ⟨fr, H, n⟩ = goV P (AOp.run fr H tok (.not x)) fl d r ks Q ⟨fr, H, n⟩ := rfl
theorem w_neg {x : AO} : goI P ⟨d, .neg x, g, fl⟩ tok r ks Q ⟨fr, H, n⟩ = goV P (AOp.run fr H tok (.neg x)) fl d r ks Q ⟨fr, H, n⟩ := rfl
theorem w_cvt {k : IntKind} {x : AO} : goI P ⟨d, .cvt k x, g, fl⟩ tok r ks Q ⟨fr, H, n⟩ = goV P (AOp.run fr H tok (.cvt k x)) fl d r ks Q ⟨fr, H, n⟩ := rfl
theorem w_ext {j : Nat} {x : AO} : goI P ⟨d, .ext j x, g, fl⟩ tok r ks Q ⟨fr, H, n⟩ = goV P (AOp.run fr H tok (.ext j x)) fl d r ks Q ⟨fr, H, n⟩ := rfl
theorem w_mkf {f : Nat} {l : List AO} : goI P ⟨d, .mkf f l, g, fl⟩ tok r ks Q ⟨fr, H, n⟩ = goV P (AOp.run fr H tok (.mkf f l)) fl d r ks Q ⟨fr, H, n⟩ := rfl
theorem w_mks {z : AV} {b : Nat} {l c : AO} : goI P ⟨d, .mks z b l c, g, fl⟩ tok r ks Q ⟨fr, H, n⟩ = goV P (AOp.run fr H tok (.mks z b l c)) fl d r ks Q ⟨fr, H, n⟩ := rfl
theorem w_slc {z : Nat} {x : AO} {l h : Option AO} : goI P ⟨d, .slc z x l h, g, fl⟩ tok r ks Q ⟨fr, H, n⟩ = goV P (AOp.run fr H tok (.slc z x l h)) fl d r ks Q ⟨fr, H, n⟩ := rfl
theorem w_len {x : AO} : goI P ⟨d, .len x, g, fl⟩ tok r ks Q ⟨fr, H, n⟩ = goV P (AOp.run fr H tok (.len x)) fl d r ks Q ⟨fr, H, n⟩ := rfl
theorem w_slen {x : AO} : goI P ⟨d, .slen x, g, fl⟩ tok r ks Q ⟨fr, H, n⟩ = goV P (AOp.run fr H tok (.slen x)) fl d r ks Q ⟨fr, H, n⟩ := rfl
theorem w_app {z b : Nat} {x y : AO} : goI P ⟨d, .app z b x y, g, fl⟩ tok r ks Q ⟨fr, H, n⟩ = goV P (AOp.run fr H tok (.app z b x y)) fl d r ks Q ⟨fr, H, n⟩ := rfl
end
/-! What the simplifier looks into. -/
section
variable {P : Program} {ks : List KF} {Q : AEx → St → Prop} {σ : St} {r : RT} {tok n0 : Nat} {i : AI} {fr : Fr} {H H' : Heap} {n n' : Nat} {fl : List Nat} {d : Option Nat}
@[congr] theorem cg_go {c : AC} : go P c ks Q σ = go P c ks Q σ := rfl
@[congr] theorem cg_goE {e : AEx} : goE P e ks Q σ = goE P e ks Q σ := rfl
@[congr] theorem cg_goO {l : List AI} (h : n = n') : goO P l tok ks Q ⟨fr, H, n⟩ = goO P l tok ks Q ⟨fr, H, n'⟩ := by rw [h]
@[congr] theorem cg_goD {l : List (Nat × AI)} (h : n = n') : goD P l n0 ks Q ⟨fr, H, n⟩ = goD P l n0 ks Q ⟨fr, H, n'⟩ := by rw [h]
@[congr] theorem cg_goI : goI P i tok r ks Q σ = goI P i tok r ks Q σ := rfl
@[congr] theorem cg_goR : goR P r ks Q σ = goR P r ks Q σ := rfl
@[congr] theorem cg_goV {x x' : Option (AV × Heap)} (h : x = x') : goV P x fl d r ks Q σ = goV P x' fl d r ks Q σ := by rw [h]
@[congr] theorem cg_goC {x x' : AV} {a b : AC} (h : x = x') : goC P x a b ks Q σ = goC P x' a b ks Q σ := by rw [h]
@[congr] theorem cg_goG {x x' : AV} {w : Bool} (h : x = x') : goG P x w i tok r ks Q σ = goG P x' w i tok r ks Q σ := by rw [h]
@[congr] theorem cg_goCall {raw : Bool} {f : Nat} {a a' : List AV} (h : a = a') : goCall P raw f a d fl r ks Q σ = goCall P raw f a' d fl r ks Q σ := by rw [h]
@[congr] theorem cg_goCallv {raw : Bool} {v v' : AV} {a a' : List AV} (h1 : v = v') (h : a = a') : goCallv P raw v a d fl r ks Q σ = goCallv P raw v' a' d fl r ks Q σ := by rw [h, h1]
@[congr] theorem cg_Fin {res : List AR} {Q : AV → Heap → Nat → Prop} {e : AEx} : Fin res Q e σ = Fin res Q e σ := rfl
@[congr] theorem cg_finK {Q : AV → Heap → Nat → Prop} {x x' : Option (List AV)} (h : x = x') : finK x Q H n = finK x' Q H n := by rw [h]
@[congr] theorem cg_get {a : AR} : AR.get σ a = AR.get σ a := rfl
@[congr] theorem cg_gets {l : List AR} : AR.gets σ l = AR.gets σ l := rfl
@[congr] theorem cg_run {op : AOp} : AOp.run fr H tok op = AOp.run fr H tok op := rfl
@[congr] theorem cg_ev {x : AO} : AO.ev fr x = AO.ev fr x := rfl
@[congr] theorem cg_set {v : AV} {a b : Nat} : Fr.set fr a v b = Fr.set fr a v b := rfl
@[congr] theorem cg_mix {m b : Nat} {fr2 : Fr} : mix m fr2 fr b = mix m fr2 fr b := rfl
@[congr] theorem cg_look {a a' : AV} (h : a = a') : look H a = look H a' := by rw [h]
@[congr] theorem cg_elems {a a' : AV} (h : a = a') : elems H a = elems H a' := by rw [h]
end
theorem rmk_b {x : Bool} {b : AV} {l : List AV} : AV.remake (.b x) (b :: l) = b := rfl
theorem rmk_i {k : IntKind} {n : Int} {b : AV} {l : List AV} : AV.remake (.i k n) (b :: l) = b := rfl
theorem rmk_s {x : ByteArray} {b : AV} {l : List AV} : AV.remake (.s x) (b :: l) = b := rfl
theorem rmk_nl  {b : AV} {l : List AV} : AV.remake (.nl ) (b :: l) = b := rfl
theorem rmk_sl {t : Option Nat} {xs : List AV} {b : AV} {l : List AV} : AV.remake (.sl t xs) (b :: l) = b := rfl
theorem rmk_rf {t s n : Nat} {b : AV} {l : List AV} : AV.remake (.rf t s n) (b :: l) = b := rfl
theorem rmk_fn {f : Nat} {cs : List AV} {b : AV} {l : List AV} : AV.remake (.fn f cs) (b :: l) = b := rfl
theorem rmk_ad {t i o : Nat} {b : AV} {l : List AV} : AV.remake (.ad t i o) (b :: l) = b := rfl
theorem rmk_pr {e : AV} {o : Nat} {b : AV} {l : List AV} : AV.remake (.pr e o) (b :: l) = b := rfl
theorem rmk_agg {a b : List AV} : AV.remake (.agg a) b = .agg b := rfl
theorem walk :
  (type_of% (@go_skip)) ∧
  (type_of% (@w_ops)) ∧
  (type_of% (@w_opsd)) ∧
  (type_of% (@go_seq)) ∧
  (type_of% (@w_cond)) ∧
  (type_of% (@go_block)) ∧
  (type_of% (@go_exit)) ∧
  (type_of% (@go_ret)) ∧
  (type_of% (@goE_nil)) ∧
  (type_of% (@goE_seq)) ∧
  (type_of% (@goE_seq_exit)) ∧
  (type_of% (@goE_seq_ret)) ∧
  (type_of% (@goE_blk)) ∧
  (type_of% (@goE_blk_ret)) ∧
  (type_of% (@goE_blk_exit)) ∧
  (type_of% (@goE_lp)) ∧
  (type_of% (@goE_lp_exit)) ∧
  (type_of% (@goE_lp_ret)) ∧
  (type_of% (@goO_nil)) ∧
  (type_of% (@goD_nil)) ∧
  (type_of% (@goR_o)) ∧
  (type_of% (@goR_d)) ∧
  (type_of% (@goO_cons)) ∧
  (type_of% (@w_cons_g)) ∧
  (type_of% (@goD_cons)) ∧
  (type_of% (@w_dcons_g)) ∧
  (type_of% (@goG_tt)) ∧
  (type_of% (@goG_ff)) ∧
  (type_of% (@w_tf)) ∧
  (type_of% (@w_ft)) ∧
  (type_of% (@w_tf0)) ∧
  (type_of% (@w_ft0)) ∧
  (type_of% (@w_tu)) ∧
  (type_of% (@w_tu0)) ∧
  (type_of% (@goC_t)) ∧
  (type_of% (@goC_f)) ∧
  (type_of% (@w_some)) ∧
  (type_of% (@w_some0)) ∧
  (type_of% (@w_some_fl)) ∧
  (type_of% (@w_some_fl0)) ∧
  (type_of% (@w_call)) ∧
  (type_of% (@w_callv)) ∧
  (type_of% (@goCallv_fn)) ∧
  (type_of% (@w_fret)) ∧
  (type_of% (@w_fnormal)) ∧
  (type_of% (@w_gett)) ∧
  (type_of% (@w_getc)) ∧
  (type_of% (@finK_some)) ∧
  (type_of% (@ev_t)) ∧
  (type_of% (@ev_c)) ∧
  (type_of% (@set_at)) ∧
  (type_of% (@frOf_at)) ∧
  (type_of% (@upd_at)) ∧
  (type_of% (@off_at)) ∧
  (type_of% (@mix_at)) ∧
  (type_of% (@cellOk_b)) ∧
  (type_of% (@cells_b)) ∧
  (type_of% (@isTop_b)) ∧
  (type_of% (@cellOk_i)) ∧
  (type_of% (@cells_i)) ∧
  (type_of% (@isTop_i)) ∧
  (type_of% (@cellOk_s)) ∧
  (type_of% (@cells_s)) ∧
  (type_of% (@isTop_s)) ∧
  (type_of% (@cellOk_nl)) ∧
  (type_of% (@cells_nl)) ∧
  (type_of% (@isTop_nl)) ∧
  (type_of% (@cellOk_sl)) ∧
  (type_of% (@cells_sl)) ∧
  (type_of% (@isTop_sl)) ∧
  (type_of% (@cellOk_rf)) ∧
  (type_of% (@cells_rf)) ∧
  (type_of% (@isTop_rf)) ∧
  (type_of% (@cellOk_pr)) ∧
  (type_of% (@cells_pr)) ∧
  (type_of% (@isTop_pr)) ∧
  (type_of% (@cellOk_ad)) ∧
  (type_of% (@cells_ad)) ∧
  (type_of% (@isTop_ad)) ∧
  (type_of% (@cellOk_fn)) ∧
  (type_of% (@cells_fn)) ∧
  (type_of% (@isTop_fn)) ∧
  (type_of% (@cells_agg)) ∧
  (type_of% (@isTop_agg)) ∧
  (type_of% (@one1)) ∧
  (type_of% (@one2)) ∧
  (type_of% (@rmk_agg)) ∧
  (type_of% (@rmk_b)) ∧
  (type_of% (@rmk_i)) ∧
  (type_of% (@rmk_s)) ∧
  (type_of% (@rmk_nl)) ∧
  (type_of% (@rmk_sl)) ∧
  (type_of% (@rmk_rf)) ∧
  (type_of% (@rmk_fn)) ∧
  (type_of% (@rmk_ad)) ∧
  (type_of% (@rmk_pr)) ∧
  (type_of% (@AR.gets.eq_1)) ∧
  (type_of% (@AR.gets.eq_2)) ∧
  (type_of% (@look.eq_1)) ∧
  (type_of% (@look.eq_2)) ∧
  (type_of% (@partOf.eq_1)) ∧
  (type_of% (@partOf.eq_2)) ∧
  (type_of% (@elems.eq_1)) ∧
  (type_of% (@elems.eq_2)) ∧
  (type_of% (@elems.eq_3)) ∧
  (type_of% (@fillOne.eq_1)) ∧
  (type_of% (@fillS.eq_1)) ∧
  (type_of% (@fillS.eq_2)) ∧
  (type_of% (@fillL.eq_1)) ∧
  (type_of% (@fillL.eq_2)) ∧
  (type_of% (@bound.eq_1)) ∧
  (type_of% (@bound.eq_2)) ∧
  (type_of% (@w_mv)) ∧
  (type_of% (@w_pick)) ∧
  (type_of% (@w_new)) ∧
  (type_of% (@w_box)) ∧
  (type_of% (@w_bld)) ∧
  (type_of% (@w_bsl)) ∧
  (type_of% (@w_ld)) ∧
  (type_of% (@w_st)) ∧
  (type_of% (@w_nck)) ∧
  (type_of% (@w_fad)) ∧
  (type_of% (@w_fld)) ∧
  (type_of% (@w_iad)) ∧
  (type_of% (@w_aad)) ∧
  (type_of% (@w_sidx)) ∧
  (type_of% (@w_bin)) ∧
  (type_of% (@w_beq)) ∧
  (type_of% (@w_not)) ∧
  (type_of% (@w_neg)) ∧
  (type_of% (@w_cvt)) ∧
  (type_of% (@w_ext)) ∧
  (type_of% (@w_mkf)) ∧
  (type_of% (@w_mks)) ∧
  (type_of% (@w_slc)) ∧
  (type_of% (@w_len)) ∧
  (type_of% (@w_slen)) ∧
  (type_of% (@w_app)) ∧
  (type_of% (@AOp.run.eq_1)) ∧
  (type_of% (@AOp.run.eq_2)) ∧
  (type_of% (@AOp.run.eq_3)) ∧
  (type_of% (@AOp.run.eq_4)) ∧
  (type_of% (@AOp.run.eq_5)) ∧
  (type_of% (@AOp.run.eq_6)) ∧
  (type_of% (@AOp.run.eq_7)) ∧
  (type_of% (@AOp.run.eq_8)) ∧
  (type_of% (@AOp.run.eq_9)) ∧
  (type_of% (@AOp.run.eq_10)) ∧
  (type_of% (@AOp.run.eq_11)) ∧
  (type_of% (@AOp.run.eq_12)) ∧
  (type_of% (@AOp.run.eq_13)) ∧
  (type_of% (@AOp.run.eq_14)) ∧
  (type_of% (@AOp.run.eq_15)) ∧
  (type_of% (@AOp.run.eq_16)) ∧
  (type_of% (@AOp.run.eq_17)) ∧
  (type_of% (@AOp.run.eq_18)) ∧
  (type_of% (@AOp.run.eq_19)) ∧
  (type_of% (@AOp.run.eq_20)) ∧
  (type_of% (@AOp.run.eq_21)) ∧
  (type_of% (@AOp.run.eq_22)) ∧
  (type_of% (@AOp.run.eq_23)) ∧
  (type_of% (@AOp.run.eq_24)) ∧
  (type_of% (@AOp.run.eq_25)) ∧
  (type_of% (@AOp.run.eq_26)) ∧
  (type_of% (@binop.eq_1)) ∧
  (type_of% (@binop.eq_2)) ∧
  (type_of% (@binop.eq_3)) ∧
  (type_of% (@binop.eq_4)) ∧
  (type_of% (@binop.eq_5)) ∧
  (type_of% (@binop.eq_6)) ∧
  (type_of% (@binop.eq_7)) ∧
  (type_of% (@binop.eq_8)) ∧
  (type_of% (@binop.eq_9)) ∧
  (type_of% (@binop.eq_10)) ∧
  (type_of% (@binop.eq_11)) ∧
  (type_of% (@binop.eq_12)) ∧
  (type_of% (@binop.eq_13)) ∧
  (type_of% (@binop.eq_14)) ∧
  (type_of% (@binop.eq_15)) ∧
  (type_of% (@binop.eq_16)) :=
  ⟨@go_skip,
  @w_ops,
  @w_opsd,
  @go_seq,
  @w_cond,
  @go_block,
  @go_exit,
  @go_ret,
  @goE_nil,
  @goE_seq,
  @goE_seq_exit,
  @goE_seq_ret,
  @goE_blk,
  @goE_blk_ret,
  @goE_blk_exit,
  @goE_lp,
  @goE_lp_exit,
  @goE_lp_ret,
  @goO_nil,
  @goD_nil,
  @goR_o,
  @goR_d,
  @goO_cons,
  @w_cons_g,
  @goD_cons,
  @w_dcons_g,
  @goG_tt,
  @goG_ff,
  @w_tf,
  @w_ft,
  @w_tf0,
  @w_ft0,
  @w_tu,
  @w_tu0,
  @goC_t,
  @goC_f,
  @w_some,
  @w_some0,
  @w_some_fl,
  @w_some_fl0,
  @w_call,
  @w_callv,
  @goCallv_fn,
  @w_fret,
  @w_fnormal,
  @w_gett,
  @w_getc,
  @finK_some,
  @ev_t,
  @ev_c,
  @set_at,
  @frOf_at,
  @upd_at,
  @off_at,
  @mix_at,
  @cellOk_b,
  @cells_b,
  @isTop_b,
  @cellOk_i,
  @cells_i,
  @isTop_i,
  @cellOk_s,
  @cells_s,
  @isTop_s,
  @cellOk_nl,
  @cells_nl,
  @isTop_nl,
  @cellOk_sl,
  @cells_sl,
  @isTop_sl,
  @cellOk_rf,
  @cells_rf,
  @isTop_rf,
  @cellOk_pr,
  @cells_pr,
  @isTop_pr,
  @cellOk_ad,
  @cells_ad,
  @isTop_ad,
  @cellOk_fn,
  @cells_fn,
  @isTop_fn,
  @cells_agg,
  @isTop_agg,
  @one1,
  @one2,
  @rmk_agg,
  @rmk_b,
  @rmk_i,
  @rmk_s,
  @rmk_nl,
  @rmk_sl,
  @rmk_rf,
  @rmk_fn,
  @rmk_ad,
  @rmk_pr,
  @AR.gets.eq_1,
  @AR.gets.eq_2,
  @look.eq_1,
  @look.eq_2,
  @partOf.eq_1,
  @partOf.eq_2,
  @elems.eq_1,
  @elems.eq_2,
  @elems.eq_3,
  @fillOne.eq_1,
  @fillS.eq_1,
  @fillS.eq_2,
  @fillL.eq_1,
  @fillL.eq_2,
  @bound.eq_1,
  @bound.eq_2,
  @w_mv,
  @w_pick,
  @w_new,
  @w_box,
  @w_bld,
  @w_bsl,
  @w_ld,
  @w_st,
  @w_nck,
  @w_fad,
  @w_fld,
  @w_iad,
  @w_aad,
  @w_sidx,
  @w_bin,
  @w_beq,
  @w_not,
  @w_neg,
  @w_cvt,
  @w_ext,
  @w_mkf,
  @w_mks,
  @w_slc,
  @w_len,
  @w_slen,
  @w_app,
  @AOp.run.eq_1,
  @AOp.run.eq_2,
  @AOp.run.eq_3,
  @AOp.run.eq_4,
  @AOp.run.eq_5,
  @AOp.run.eq_6,
  @AOp.run.eq_7,
  @AOp.run.eq_8,
  @AOp.run.eq_9,
  @AOp.run.eq_10,
  @AOp.run.eq_11,
  @AOp.run.eq_12,
  @AOp.run.eq_13,
  @AOp.run.eq_14,
  @AOp.run.eq_15,
  @AOp.run.eq_16,
  @AOp.run.eq_17,
  @AOp.run.eq_18,
  @AOp.run.eq_19,
  @AOp.run.eq_20,
  @AOp.run.eq_21,
  @AOp.run.eq_22,
  @AOp.run.eq_23,
  @AOp.run.eq_24,
  @AOp.run.eq_25,
  @AOp.run.eq_26,
  @binop.eq_1,
  @binop.eq_2,
  @binop.eq_3,
  @binop.eq_4,
  @binop.eq_5,
  @binop.eq_6,
  @binop.eq_7,
  @binop.eq_8,
  @binop.eq_9,
  @binop.eq_10,
  @binop.eq_11,
  @binop.eq_12,
  @binop.eq_13,
  @binop.eq_14,
  @binop.eq_15,
  @binop.eq_16⟩
theorem plain :
  (type_of% (@beqI)) ∧
  (type_of% (@bneI)) ∧
  (type_of% (@List.getElem?_cons_zero.{0} AV)) ∧
  (type_of% (@List.getElem?_cons_succ.{0} AV)) ∧
  (type_of% (@List.getElem?_nil.{0} AV)) ∧
  (type_of% (@List.length_cons.{0} AV)) ∧
  (type_of% (@List.length_nil.{0} AV)) ∧
  (type_of% (@List.append_nil.{0} AV)) ∧
  (type_of% (@List.nil_append.{0} AV)) ∧
  (type_of% (@List.cons_append.{0} AV)) ∧
  (type_of% (@List.take_succ_cons.{0} AV)) ∧
  (type_of% (@List.take_zero.{0} AV)) ∧
  (type_of% (@List.drop_succ_cons.{0} AV)) ∧
  (type_of% (@List.drop_zero.{0} AV)) ∧
  (type_of% (@List.take_nil.{0} AV)) ∧
  (type_of% (@List.drop_nil.{0} AV)) ∧
  (type_of% (@List.all_cons.{0} AV)) ∧
  (type_of% (@List.all_nil.{0} AV)) ∧
  (type_of% (@List.set_cons_zero.{0} AV)) ∧
  (type_of% (@List.set_cons_succ.{0} AV)) ∧
  (type_of% (@List.headD_cons.{0} AV)) ∧
  (type_of% (@Option.getD_some.{0} AV)) ∧
  (type_of% (@Option.getD_none.{0} AV)) ∧
  (type_of% (@List.replicate_succ.{0} AV)) ∧
  (type_of% (@List.replicate_zero.{0} AV)) ∧
  (type_of% (@Nat.add_zero)) ∧
  (type_of% (@Nat.zero_add)) ∧
  (type_of% (@Nat.add_eq)) ∧
  (type_of% (@Nat.add_left_cancel_iff)) ∧
  (type_of% (@Nat.add_right_cancel_iff)) ∧
  (type_of% (@Nat.succ_ne_zero)) ∧
  (type_of% (@Int.toNat_natCast)) ∧
  (type_of% (@Int.natCast_nonneg)) ∧
  (type_of% (@Bool.and_true)) ∧
  (type_of% (@Bool.true_and)) ∧
  (type_of% (@Bool.and_self)) ∧
  (type_of% (@Bool.not_true)) ∧
  (type_of% (@Bool.not_false)) ∧
  (type_of% (@Nat.le_refl)) ∧
  (type_of% (@Nat.zero_le)) ∧
  (type_of% (@Int.natCast_zero)) ∧
  (type_of% (@and_self)) ∧
  (type_of% (@and_true)) ∧
  (type_of% (@true_and)) ∧
  (type_of% (@ne_eq.{1} Nat)) ∧
  (type_of% (@ne_eq.{1} Int)) ∧
  (type_of% (@ne_eq.{1} Bool)) ∧
  (type_of% (@ge_iff_le.{0} Int _)) ∧
  (type_of% (@gt_iff_lt.{0} Int _)) ∧
  (type_of% (@ge_iff_le.{0} Nat _)) ∧
  (type_of% (@gt_iff_lt.{0} Nat _)) ∧
  (type_of% (@not_true_eq_false)) ∧
  (type_of% (@not_false_eq_true)) ∧
  (type_of% (@List.map_cons.{0,0} AO AV)) ∧
  (type_of% (@List.map_nil.{0,0} AO AV)) ∧
  (type_of% (@Option.map_some.{0,0} AO AV)) ∧
  (type_of% (@Option.map_none.{0,0} AO AV)) ∧
  (type_of% (@Option.map_some.{0,0} AV (AV × Heap))) ∧
  (type_of% (@Option.map_none.{0,0} AV (AV × Heap))) ∧
  (type_of% (@Option.map_some.{0,0} (List AV) (AV × Heap))) ∧
  (type_of% (@Option.map_none.{0,0} (List AV) (AV × Heap))) ∧
  (type_of% (@List.length_cons.{0} AI)) ∧
  (type_of% (@List.length_nil.{0} AI)) ∧
  (type_of% (@List.length_cons.{0} (Nat × AI))) ∧
  (type_of% (@List.length_nil.{0} (Nat × AI))) ∧
  (type_of% (@Option.getD_none.{0} Nat)) ∧
  (type_of% (@Option.getD_some.{0} Nat)) ∧
  (type_of% (@decide_true)) ∧
  (type_of% (@decide_false)) ∧
  (type_of% (@Bool.false_eq_true)) ∧
  (type_of% (@Bool.true_eq_false)) :=
  ⟨@beqI,
  @bneI,
  @List.getElem?_cons_zero.{0} AV,
  @List.getElem?_cons_succ.{0} AV,
  @List.getElem?_nil.{0} AV,
  @List.length_cons.{0} AV,
  @List.length_nil.{0} AV,
  @List.append_nil.{0} AV,
  @List.nil_append.{0} AV,
  @List.cons_append.{0} AV,
  @List.take_succ_cons.{0} AV,
  @List.take_zero.{0} AV,
  @List.drop_succ_cons.{0} AV,
  @List.drop_zero.{0} AV,
  @List.take_nil.{0} AV,
  @List.drop_nil.{0} AV,
  @List.all_cons.{0} AV,
  @List.all_nil.{0} AV,
  @List.set_cons_zero.{0} AV,
  @List.set_cons_succ.{0} AV,
  @List.headD_cons.{0} AV,
  @Option.getD_some.{0} AV,
  @Option.getD_none.{0} AV,
  @List.replicate_succ.{0} AV,
  @List.replicate_zero.{0} AV,
  @Nat.add_zero,
  @Nat.zero_add,
  @Nat.add_eq,
  @Nat.add_left_cancel_iff,
  @Nat.add_right_cancel_iff,
  @Nat.succ_ne_zero,
  @Int.toNat_natCast,
  @Int.natCast_nonneg,
  @Bool.and_true,
  @Bool.true_and,
  @Bool.and_self,
  @Bool.not_true,
  @Bool.not_false,
  @Nat.le_refl,
  @Nat.zero_le,
  @Int.natCast_zero,
  @and_self,
  @and_true,
  @true_and,
  @ne_eq.{1} Nat,
  @ne_eq.{1} Int,
  @ne_eq.{1} Bool,
  @ge_iff_le.{0} Int _,
  @gt_iff_lt.{0} Int _,
  @ge_iff_le.{0} Nat _,
  @gt_iff_lt.{0} Nat _,
  @not_true_eq_false,
  @not_false_eq_true,
  @List.map_cons.{0,0} AO AV,
  @List.map_nil.{0,0} AO AV,
  @Option.map_some.{0,0} AO AV,
  @Option.map_none.{0,0} AO AV,
  @Option.map_some.{0,0} AV (AV × Heap),
  @Option.map_none.{0,0} AV (AV × Heap),
  @Option.map_some.{0,0} (List AV) (AV × Heap),
  @Option.map_none.{0,0} (List AV) (AV × Heap),
  @List.length_cons.{0} AI,
  @List.length_nil.{0} AI,
  @List.length_cons.{0} (Nat × AI),
  @List.length_nil.{0} (Nat × AI),
  @Option.getD_none.{0} Nat,
  @Option.getD_some.{0} Nat,
  @decide_true,
  @decide_false,
  @Bool.false_eq_true,
  @Bool.true_eq_false⟩
end Go.Am
/-! Results that are memory of the call's own. -/
namespace Go.Am
set_option linter.unusedVariables false

theorem mc_go {P : Program} {f : Nat} {N : Nat} {c : AC} {res : List AR} (h : Has P f ⟨N, c, res⟩) {args : List AV} {H : Heap} {n : Nat} {Q : AV → Heap → Nat → Prop} (hl : args.length ≤ N)
    (hx : go P c [] (Fin res Q) ⟨frOf args, H, n⟩) : MC P f args H n Q := mc_of h hl hx

/-- A value whose memory is its own: every slice with elements lies in an own block or bears a tag. -/
inductive Tgd : AV → Prop
  | b (x : Bool) : Tgd (.b x)
  | i (k : IntKind) (m : Int) : Tgd (.i k m)
  | s (x : ByteArray) : Tgd (.s x)
  | tup (cs : List AV) (h : ∀ x ∈ cs, Tgd x) : Tgd (.tup cs)
  | agg (cs : List AV) (h : ∀ x ∈ cs, Tgd x) : Tgd (.agg cs)
  | nl : Tgd .nl
  | rf (t s n : Nat) : Tgd (.rf t s n)
  | sl0 (t : Option Nat) : Tgd (.sl t [])
  | sl (t : Nat) (xs : List AV) (h : ∀ x ∈ xs, ∀ y ∈ x.cells, Tgd y) : Tgd (.sl (some t) xs)
  | top : Tgd .top

/-- What is kept of a callee's heap. -/
def Keep (Hc Hk : Heap) (v : AV) : Prop :=
  Tgd v ∧ ∀ t b, Hk t = some b → ∃ es, Hc t = some (b.1, es) ∧ (∃ m, b.2 = es.take m) ∧ ∀ x ∈ b.2, ∀ y ∈ x.cells, Tgd y

/-- The caller's heap and what a call has added. -/
def joinH (n : Nat) (H Hk : Heap) : Heap := fun t => if t < n then H t else Hk t
theorem joinH_lt {n : Nat} {H Hk : Heap} {t : Nat} (h : t < n) : joinH n H Hk t = H t := by simp [joinH, h]
theorem joinH_ge {n : Nat} {H Hk : Heap} {t : Nat} (h : n ≤ t) : joinH n H Hk t = Hk t := by simp [joinH]; omega

/-- A contract without memory, used over the caller's memory: what the callee has made and is kept becomes the caller's own. -/
theorem MC.lift {P : Program} {f : Nat} {args args' : List AV} {H : Heap} {n : Nat} {S : Nat → Prop} {Q Q2 : AV → Heap → Nat → Prop} (hm : MC P f args' noHeap n Q) (hv : Vws H S args args')
    (hq : ∀ v Hc n2, Q v Hc n2 → ∃ Hk, Keep Hc Hk v ∧ Q2 v Hk n2) : MC P f args H n (fun v H2 n2 => n ≤ n2 ∧ ∃ Hk, Q2 v Hk n2 ∧ H2 = joinH n H Hk) := by
  refine ⟨hm.1, fun X β w cargs hs hr => ?_⟩
  let Xc : Nat → Prop := fun g => X g ∨ ∃ t b p, H t = some b ∧ β t = some p ∧ p.g = g ∧ ¬ S t
  have hxlt : ∀ g, Xc g → g < w.heap.size := by
    rintro g (h | ⟨t, b, p, _, hp, rfl, _⟩)
    · exact hs.xlt g h
    · exact hs.plt hp
  have hs0 : HSim Xc (fun _ => none) w noHeap n := ⟨(fun t p h => by cases h), (fun t t' p p' h => by cases h), (fun t p h => by cases h), (fun t es h => by cases h), hxlt⟩
  have hno : ∀ g, okB X β H g → okB Xc (fun _ => none) noHeap g := by
    intro g hg
    refine ⟨?_, fun t es p h => by cases h⟩
    rintro (h | ⟨t, b, p, hH, hp, hpg, _⟩)
    · exact hg.1 h
    · exact hg.2 t b p hH hp hpg
  have hSt : ∀ t b p, S t → H t = some b → β t = some p → okB Xc (fun _ => none) noHeap p.g := by
    intro t b p hSt hH hp
    refine ⟨?_, fun t es p h => by cases h⟩
    rintro (h | ⟨t', b', p', hH', hp', hpg, hS'⟩)
    · exact (hs.blk t p hp).1 h
    · obtain ⟨q, hq, hd, _⟩ := hs.dom t b hH
      obtain ⟨q', hq', hd', _⟩ := hs.dom t' b' hH'
      rw [hp] at hq; cases hq
      rw [hp'] at hq'; cases hq'
      exact hS' (hs.inj t t' p p' hp hp' hpg.symm hd hd' ▸ hSt)
  have hr0 : LRep (fun _ => none) (okB Xc (fun _ => none) noHeap) w cargs args' := by
    refine ⟨by rw [hr.1]; exact hv.1, fun j y hy => ?_⟩
    have hj : j < args.length := by rw [hv.1]; exact (List.getElem?_eq_some_iff.1 hy).1
    exact (hv.2 j _ y (List.getElem?_eq_getElem hj) hy).rep hs (fun _ => hno) hSt (fun k t p h => h.elim) (hr.2 j _ (List.getElem?_eq_getElem hj))
  refine Calls.mono (hm.2 Xc (fun _ => none) w cargs hs0 hr0) ?_
  rintro e w' ⟨cv, v, β', Hc, n', he, hQ, hs', hrep, hcx⟩
  obtain ⟨Hk, ⟨hTv, hTk⟩, hQ2⟩ := hq v Hc n' hQ
  have hnoown : ∀ g, ¬ Entry.own ⟨Xc, fun _ => none, noHeap, n, w⟩ g := by rintro g ⟨t, es, p, h, _⟩; cases h
  have hold : ∀ g, g < w.heap.size → w'.heap[g]? = w.heap[g]? := fun g hg => hcx.old g hg (hnoown g)
  have hge : ∀ t p, β' t = some p → n ≤ t := by
    intro t p hp
    rcases Nat.lt_or_ge t n with h | h
    · have := hcx.back t p h hp; cases this
    · exact h
  have hnew : ∀ t p, β' t = some p → w.heap.size ≤ p.g := by
    intro t p hp
    rcases Nat.lt_or_ge p.g w.heap.size with h | h
    · exact absurd (hcx.new t p (hge t p hp) hp h) (hnoown _)
    · exact h
  have hsz : w.heap.size ≤ w'.heap.size := hcx.size
  have hcell : ∀ g o, g < w.heap.size → w'.cell? ⟨g, o, none⟩ = w.cell? ⟨g, o, none⟩ := fun g o hg => by simp [World.cell?, hold g hg]
  have hdomlt : ∀ t b, H t = some b → t < n := fun t b hb => by obtain ⟨p, hp, _⟩ := hs.dom t b hb; exact hs.lt t p hp
  let β2 : Bt := fun t => if t < n then β t else β' t
  let H2 : Heap := joinH n H Hk
  have b2lt : ∀ {t}, t < n → β2 t = β t := fun h => by simp [β2, h]
  have b2ge : ∀ {t}, n ≤ t → β2 t = β' t := fun h => by simp [β2]; omega
  have hnle : n ≤ n' := hcx.le
  have hkge : ∀ t b, Hk t = some b → n ≤ t := by
    intro t b hb
    obtain ⟨es, h1, _⟩ := hTk t b hb
    obtain ⟨p, hp, _⟩ := hs'.dom t _ h1
    exact hge t p hp
  have hok2 : ∀ g, g < w.heap.size → okB X β H g → okB X β2 H2 g := by
    intro g hgl hg
    refine ⟨hg.1, fun t b p hb hp => ?_⟩
    by_cases ht : t < n
    · rw [b2lt ht] at hp
      exact hg.2 t b p (by rw [← joinH_lt (H := H) (Hk := Hk) ht]; exact hb) hp
    · rw [b2ge (by omega)] at hp
      have := hnew t p hp
      omega
  have hstp : Stp β (okB X β H) w β2 (okB X β2 H2) w' := by
    refine ⟨fun t p hp => ⟨p, by rw [b2lt (hs.lt t p hp)]; exact hp, rfl, rfl, rfl, rfl, rfl⟩, fun t p hp _ _ => by rw [b2lt (hs.lt t p hp)]; exact hp, hsz, fun g hgl hg => hok2 g hgl hg, fun g o hg _ => hcell g o hg⟩
  -- what the callee made stands for what it stood for
  have hmove : ∀ {u : Value} {x : AV}, Rep β' (okB Xc β' Hc) w' u x → Tgd x → Rep β2 (okB X β2 H2) w' u x := by
    have hokn : ∀ g, w.heap.size ≤ g → okB Xc β' Hc g → okB X β2 H2 g := by
      intro g hgl hg
      refine ⟨fun hx => hg.1 (.inl hx), fun t b p hb hp => ?_⟩
      by_cases ht : t < n
      · rw [b2lt ht] at hp
        have := hs.plt hp
        omega
      · have hb' : Hk t = some b := by rw [← joinH_ge (H := H) (Hk := Hk) (Nat.le_of_not_lt ht)]; exact hb
        rw [b2ge (by omega)] at hp
        obtain ⟨es, h1, _⟩ := hTk t b hb'
        exact hg.2 t _ p h1 hp
    intro u x hr
    induction hr with
    | top v => intro _; exact .top v
    | b x => intro _; exact .b x
    | i k m => intro _; exact .i k m
    | s x => intro _; exact .s x
    | agg vs cs hl h ih =>
      intro ht
      cases ht with
      | agg _ ht => exact .agg vs cs hl fun j y hy => ih j y hy (ht y (List.mem_of_getElem? hy))
    | tup vs cs hl h ih =>
      intro ht
      cases ht with
      | tup _ ht => exact .tup vs cs hl fun j y hy => ih j y hy (ht y (List.mem_of_getElem? hy))
    | nl => intro _; exact .nl
    | sl0 t a c => intro _; exact .sl0 t a c
    | sl g o c sz t xs cv hc hg hlt htt hss hm hr ih =>
      intro ht
      cases ht with
      | sl0 => exact .sl0 _ _ _
      | sl k _ ht =>
        obtain ⟨p, hp, hpg, hd⟩ := htt k rfl
        have hgl : w.heap.size ≤ g := by rw [← hpg]; exact hnew k p hp
        refine .sl g o c sz (some k) xs cv hc (hokn g hgl hg) hlt ?_ hss hm fun i x j y hx hy => ih i x j y hx hy (ht x (List.mem_of_getElem? hx) y (List.mem_of_getElem? hy))
        intro k' hk'
        cases hk'
        exact ⟨p, by rw [b2ge (hge k p hp)]; exact hp, hpg, hd⟩
    | rf t st m a c p hp ha hc h0 =>
      intro _
      exact .rf t st m a c p (by rw [b2ge (hge t p hp)]; exact hp) ha hc h0
    | pr e o g b cv hg hlt hm hr ih => intro ht; cases ht
    | ad t i o p hp => intro ht; cases ht
    | fn f caps vs hl h ih => intro ht; cases ht
  have hs2 : HSim X β2 w' H2 n' := by
    refine ⟨?_, ?_, ?_, ?_, fun g hg => by have := hs.xlt g hg; omega⟩
    · intro t p hp
      by_cases ht : t < n
      · omega
      · rw [b2ge (by omega)] at hp; exact hs'.lt t p hp
    · intro t t' p p' hp hp' hgg hd hd'
      by_cases ht : t < n <;> by_cases ht' : t' < n
      · rw [b2lt ht] at hp; rw [b2lt ht'] at hp'; exact hs.inj t t' p p' hp hp' hgg hd hd'
      · rw [b2lt ht] at hp; rw [b2ge (by omega)] at hp'
        have h1 := hs.plt hp; have h2 := hnew _ _ hp'; omega
      · rw [b2ge (by omega)] at hp; rw [b2lt ht'] at hp'
        have h1 := hs.plt hp'; have h2 := hnew _ _ hp; omega
      · rw [b2ge (by omega)] at hp hp'; exact hs'.inj t t' p p' hp hp' hgg hd hd'
    · intro t p hp
      by_cases ht : t < n
      · rw [b2lt ht] at hp
        obtain ⟨h1, cur, e, h2, h3⟩ := hs.blk t p hp
        exact ⟨h1, cur, e, by rw [hold _ (hs.plt hp)]; exact h2, h3⟩
      · rw [b2ge (by omega)] at hp
        obtain ⟨h1, h2⟩ := hs'.blk t p hp
        exact ⟨fun hx => h1 (.inl hx), h2⟩
    · intro t b hb
      by_cases ht : t < n
      · have hb' : H t = some b := by rw [← joinH_lt (H := H) (Hk := Hk) ht]; exact hb
        obtain ⟨p, hp, hd, hz, hl, hx⟩ := hs.dom t b hb'
        refine ⟨p, by rw [b2lt ht]; exact hp, hd, hz, hl, fun i x hi => ⟨(hx i x hi).1, fun j y hj => ?_⟩⟩
        obtain ⟨v, hv, hr⟩ := (hx i x hi).2 j y hj
        exact ⟨v, by rw [hcell _ _ (hs.plt hp)]; exact hv, hr.stp hstp⟩
      · have hb' : Hk t = some b := by rw [← joinH_ge (H := H) (Hk := Hk) (Nat.le_of_not_lt ht)]; exact hb
        obtain ⟨es, h1, ⟨m, hm2⟩, h3⟩ := hTk t b hb'
        obtain ⟨p, hp, hd, hz, hl, hx⟩ := hs'.dom t _ h1
        refine ⟨p, by rw [b2ge (by omega)]; exact hp, hd, hz, ?_, fun i x hi => ?_⟩
        · rw [hm2, List.length_take]; simp only at hl; omega
        · have hi' : es[i]? = some x := by
            rw [hm2, List.getElem?_take] at hi
            split at hi
            · exact hi
            · cases hi
          refine ⟨(hx i x hi').1, fun j y hj => ?_⟩
          obtain ⟨v, hv, hr⟩ := (hx i x hi').2 j y hj
          exact ⟨v, hv, hmove hr (h3 x (List.mem_of_getElem? hi) y (List.mem_of_getElem? hj))⟩
  have hcx2 : Ctx ⟨X, β, H, n, w⟩ β2 w' H2 n' := by
    refine ⟨hsz, hcx.os, hcx.tape, hcx.output, hnle, fun t p hp => hstp.tok t p hp, fun t p hp _ => ?_, fun g hg _ => hold g hg, fun t b ht hb => ?_, ?_, ?_, hs.lt⟩
    · simp only at hp
      rw [b2lt (hs.lt t p hp)]; exact hp
    · simp only at ht hb ⊢
      rw [show H2 t = H t from joinH_lt ht] at hb; rw [hb]; rfl
    · intro t p ht hp hlt
      simp only at ht hlt
      rw [b2ge ht] at hp
      have := hnew _ _ hp
      omega
    · intro t p ht hp
      simp only at ht ⊢
      rw [b2lt ht] at hp
      rw [hp]; rfl
  exact ⟨cv, v, β2, H2, n', he, ⟨hnle, Hk, hQ2, rfl⟩, hs2, hmove hrep hTv, hcx2⟩

/-! Lists of integers as memory of one's own. -/

/-- The value is a list of integers in memory of its own, made by token n or later. -/
def OwnI (n : Nat) (v : AV) (H : Heap) (xs : List Int) : Prop :=
  (xs = [] ∧ v = .nl) ∨ ∃ t es, n ≤ t ∧ v = .rf t 0 xs.length ∧ H t = some (1, es) ∧ es.take xs.length = xs.map (.i .i64)

/-- A call that hands back a list of integers in memory of its own. -/
def OCI (P : Program) (f : Nat) (args : List AV) (xs : List Int) : Prop := ∀ n, MC P f args noHeap n fun v H' _ => OwnI n v H' xs

/-- The same, as data with a tag. -/
def FCI (P : Program) (f : Nat) (args : List AV) (xs : List Int) : Prop := PC P f args (fun n => .sl (some n) (xs.map (.i .i64))) 1 False

theorem data_tag {H : Heap} {n t : Nat} {v : AV} {xs : List AV} (h : ∀ k, Vw H (fun _ => True) (fun k' t' => k' = k ∧ t' = t) False v (.sl (some k) xs)) : Data (fun n => .sl (some n) xs) 1 False v H n :=
  ⟨fun _ => t, fun k k' h1 h2 _ => by omega, fun n => (h n).mono (fun k t' ⟨h1, h2⟩ => ⟨0, by omega, h1, h2.symm⟩) (fun h => h)⟩

theorem vw_rf_tag {H : Heap} {t m z : Nat} {es : List AV} {xs : List Int} (hH : H t = some (z, es)) (hm : m = xs.length) (he : es.take m = xs.map (.i .i64)) (k : Nat) {T : Nat → Nat → Prop} (hT : T k t) : Vw H (fun _ => True) T False (.rf t 0 m) (.sl (some k) (xs.map (.i .i64))) := by
  subst hm
  have hlen : xs.length ≤ es.length := by
    have := congrArg List.length he
    simp only [List.length_take, List.length_map] at this
    omega
  refine .rf t 0 _ z es (some k) _ trivial hH (by omega) (fun h => by cases h) (fun k' hk => by cases hk; exact hT) (by simp) ?_ ?_
  · intro j x y hx hy
    rw [List.drop_zero, he] at hx
    rw [hx] at hy; cases hy; rfl
  · intro j x y k p q hx hy
    rw [List.drop_zero, he] at hx
    exact vwc_flat (g := AV.i .i64) (fun a => .i _ _) (fun a => rfl) j x y k p q hx hy

theorem OwnI.data {n m : Nat} {v : AV} {H : Heap} {xs : List Int} (h : OwnI n v H xs) : Data (fun n => .sl (some n) (xs.map (.i .i64))) 1 False v H m := by
  rcases h with ⟨rfl, rfl⟩ | ⟨t, es, _, rfl, hH, he⟩
  · exact data_tag (t := 0) fun k => .nlsl _
  · exact data_tag (t := t) fun k => vw_rf_tag hH rfl he k ⟨rfl, rfl⟩

theorem OCI.fc {P : Program} {f : Nat} {args : List AV} {xs : List Int} (h : OCI P f args xs) : FCI P f args xs := MC.mono (h 0) fun v H' n' hq => OwnI.data (m := 0) hq

/-- What an own list of integers looks like to the caller. -/
def GotI (n : Nat) (v : AV) (H H2 : Heap) (xs : List Int) : Prop :=
  (∀ u, u < n → H2 u = H u) ∧ ((xs = [] ∧ v = .nl) ∨ ∃ t, n ≤ t ∧ v = .rf t 0 xs.length ∧ H2 t = some (1, xs.map (.i .i64)))

theorem OCI.at {P : Program} {f : Nat} {args args' : List AV} {xs : List Int} {H : Heap} {n : Nat} (h : OCI P f args' xs) (hv : Vws H (fun _ => True) args args') :
    MC P f args H n fun v H2 n2 => n ≤ n2 ∧ GotI n v H H2 xs ∧ (∀ t s m, v = .rf t s m → t < n2) := by
  have hm : MC P f args' noHeap n fun v H' n' => OwnI n v H' xs ∧ (∀ t s m, v = .rf t s m → t < n') := by
    refine ⟨(h n).1, fun X β w cargs hs hr => Calls.mono ((h n).2 X β w cargs hs hr) ?_⟩
    rintro e w' ⟨cv, v, β', H', n', h1, h2, h3, h4, h5⟩
    refine ⟨cv, v, β', H', n', h1, ⟨h2, ?_⟩, h3, h4, h5⟩
    rintro t s m rfl
    obtain ⟨p, a, c, hp, _⟩ := h4.rf_inv
    exact h3.lt t p hp
  refine (MC.lift (Q2 := fun v Hk n2 => ((xs = [] ∧ v = .nl) ∨ ∃ t, n ≤ t ∧ v = .rf t 0 xs.length ∧ Hk t = some (1, xs.map (.i .i64))) ∧ (∀ t s m, v = .rf t s m → t < n2)) hm hv ?_).mono ?_
  · rintro v Hc n2 ⟨⟨rfl, rfl⟩ | ⟨t, es, h1, rfl, hH, he⟩, h5⟩
    · exact ⟨noHeap, ⟨.nl, fun t b hb => by cases hb⟩, .inl ⟨rfl, rfl⟩, h5⟩
    · refine ⟨fun u => if u = t then some (1, xs.map (.i .i64)) else none, ⟨.rf _ _ _, fun u b hb => ?_⟩, .inr ⟨t, h1, rfl, by simp⟩, h5⟩
      simp only at hb
      split at hb
      · rename_i e; subst e; cases hb
        refine ⟨es, hH, ⟨xs.length, he.symm⟩, fun x hx y hy => ?_⟩
        simp only [List.mem_map] at hx
        obtain ⟨a, _, rfl⟩ := hx
        simp only [AV.cells, List.mem_singleton] at hy
        subst hy
        exact .i _ _
      · cases hb
  · rintro v H2 n2 ⟨hn, Hk, ⟨hq, h5⟩, rfl⟩
    refine ⟨hn, ⟨fun u hu => joinH_lt hu, ?_⟩, h5⟩
    rcases hq with hq | ⟨t, h1, h2, h3⟩
    · exact .inl hq
    · exact .inr ⟨t, h1, h2, by rw [joinH_ge h1]; exact h3⟩

end Go.Am
/-! Results as data, each slice with a tag of its own. -/
namespace Go.Am
set_option linter.unusedVariables false

/-- Over H, v is r n, where the tags n, n + 1, .. stand for the tokens ts. -/
def Fzz (H : Heap) (v : AV) (ts : List Nat) (r : Nat → AV) : Prop := ∀ (n : Nat) (T : Nat → Nat → Prop), (∀ (j t : Nat), ts[j]? = some t → T (n + j) t) → Vw H (fun _ => True) T False v (r n)
def FzzL (H : Heap) (vs : List AV) (ts : List Nat) (rs : Nat → List AV) : Prop := ∀ (n : Nat) (T : Nat → Nat → Prop), (∀ (j t : Nat), ts[j]? = some t → T (n + j) t) → VwL H (fun _ => True) T False vs (rs n)

theorem Fzz.data {H : Heap} {v : AV} {ts : List Nat} {r : Nat → AV} {m : Nat} (h : Fzz H v ts r) (nd : ts.Nodup) : Data r ts.length False v H m := by
  refine ⟨fun j => (ts[j]?).getD 0, fun k k' h1 h2 he => ?_, fun n => h n _ ?_⟩
  · simp only [List.getElem?_eq_getElem h1, List.getElem?_eq_getElem h2, Option.getD_some] at he
    have hp := List.pairwise_iff_getElem.1 nd
    rcases Nat.lt_trichotomy k k' with h3 | h3 | h3
    · exact absurd he (hp k k' h1 h2 h3)
    · exact h3
    · exact absurd he.symm (hp k' k h2 h1 h3)
  · intro j t hj
    have hl : j < ts.length := (List.getElem?_eq_some_iff.1 hj).1
    exact ⟨j, hl, rfl, by simp [hj]⟩

theorem fz_flat {H : Heap} {v : AV} (h : Flat v) : Fzz H v [] (fun _ => v) := fun n T hT => h.vw
theorem fz_b {H : Heap} {x : Bool} : Fzz H (.b x) [] (fun _ => .b x) := fz_flat (.b x)
theorem fz_i {H : Heap} {k : IntKind} {x : Int} : Fzz H (.i k x) [] (fun _ => .i k x) := fz_flat (.i k x)
theorem fz_s {H : Heap} {x : ByteArray} : Fzz H (.s x) [] (fun _ => .s x) := fz_flat (.s x)
theorem fzl_nil {H : Heap} : FzzL H [] [] (fun _ => []) := fun n T hT => vwl_nil
theorem fzl_cons {H : Heap} {v : AV} {vs : List AV} {ts us : List Nat} {r : Nat → AV} {rs : Nat → List AV} (h : Fzz H v ts r) (hs : FzzL H vs us rs) : FzzL H (v :: vs) (ts ++ us) (fun n => r n :: rs (n + ts.length)) := by
  intro n T hT
  refine vwl_cons (h n T fun j t hj => hT j t ?_) (hs (n + ts.length) T fun j t hj => ?_)
  · rw [List.getElem?_append_left (List.getElem?_eq_some_iff.1 hj).1]; exact hj
  · have := hT (ts.length + j) t (by rw [List.getElem?_append_right (by omega), Nat.add_sub_cancel_left]; exact hj)
    rw [← Nat.add_assoc] at this; exact this
theorem fz_agg {H : Heap} {vs : List AV} {ts : List Nat} {rs : Nat → List AV} (h : FzzL H vs ts rs) : Fzz H (.agg vs) ts (fun n => .agg (rs n)) := fun n T hT => vw_agg (h n T hT)
theorem fz_tup {H : Heap} {vs : List AV} {ts : List Nat} {rs : Nat → List AV} (h : FzzL H vs ts rs) : Fzz H (.tup vs) ts (fun n => .tup (rs n)) := fun n T hT => vw_tup (h n T hT)

theorem fz_ints_nl {H : Heap} {t : Nat} {xs : List Int} (h : xs = []) : Fzz H .nl [t] (fun n => .sl (some n) (xs.map (.i .i64))) := by
  subst h; exact fun n T hT => .nlsl _
theorem fz_ints_rf {H : Heap} {t z m : Nat} {es : List AV} {xs : List Int} (hH : H t = some (z, es)) (hm : m = xs.length) (he : es.take m = xs.map (.i .i64)) : Fzz H (.rf t 0 m) [t] (fun n => .sl (some n) (xs.map (.i .i64))) :=
  fun n T hT => vw_rf_tag hH hm he n (by simpa using hT 0 t rfl)
theorem fz_ints_sl {H : Heap} {t : Nat} {xs ys : List Int} (h : xs = ys) : Fzz H (.sl (some t) (xs.map (.i .i64))) [t] (fun n => .sl (some n) (ys.map (.i .i64))) := by
  subst h
  intro n T hT
  refine .sl (some t) (some n) _ _ (fun h => by cases h) (fun k hk => by cases hk; exact ⟨t, rfl, by simpa using hT 0 t rfl⟩) rfl ?_ (vwc_flat (fun a => .i _ _) (fun a => rfl))
  intro j x y hx hy; rw [hx] at hy; cases hy; rfl
theorem OwnI.fz {n : Nat} {v : AV} {H : Heap} {xs : List Int} (h : OwnI n v H xs) : ∃ t, n ≤ t ∧ (v = .nl ∨ ∃ m, v = .rf t 0 m) ∧ Fzz H v [t] (fun n => .sl (some n) (xs.map (.i .i64))) := by
  rcases h with ⟨rfl, rfl⟩ | ⟨t, es, h1, rfl, hH, he⟩
  · exact ⟨n, Nat.le_refl _, .inl rfl, fz_ints_nl rfl⟩
  · exact ⟨t, h1, .inr ⟨_, rfl⟩, fz_ints_rf hH rfl he⟩

/-- A pair of lists of integers, each in memory of its own. -/
def FCI2 (P : Program) (f : Nat) (args : List AV) (xs ys : List Int) : Prop := PC P f args (fun n => .tup [.sl (some n) (xs.map (.i .i64)), .sl (some (n + 1)) (ys.map (.i .i64))]) 2 False

theorem data_ints2 {H : Heap} {v1 v2 : AV} {t1 t2 m : Nat} {xs ys : List Int} (h1 : Fzz H v1 [t1] (fun n => .sl (some n) (xs.map (.i .i64)))) (h2 : Fzz H v2 [t2] (fun n => .sl (some n) (ys.map (.i .i64)))) (hne : t1 ≠ t2) :
    Data (fun n => .tup [.sl (some n) (xs.map (.i .i64)), .sl (some (n + 1)) (ys.map (.i .i64))]) 2 False (.tup [v1, v2]) H m :=
  (fz_tup (fzl_cons h1 (fzl_cons h2 fzl_nil))).data (by simp [hne])

end Go.Am
/-! Contracts of calls whose results may hold what the arguments held. -/
namespace Go.Am
set_option linter.unusedVariables false

/-- No own block is reached: slices with elements are data. -/
inductive NoRf : AV → Prop
  | b (x : Bool) : NoRf (.b x)
  | i (k : IntKind) (m : Int) : NoRf (.i k m)
  | s (x : ByteArray) : NoRf (.s x)
  | tup (cs : List AV) (h : ∀ x ∈ cs, NoRf x) : NoRf (.tup cs)
  | agg (cs : List AV) (h : ∀ x ∈ cs, NoRf x) : NoRf (.agg cs)
  | fn (f : Nat) (cs : List AV) (h : ∀ x ∈ cs, NoRf x) : NoRf (.fn f cs)
  | nl : NoRf .nl
  | sl (t : Option Nat) (xs : List AV) (h : ∀ x ∈ xs, ∀ y ∈ x.cells, NoRf y) : NoRf (.sl t xs)
  | top : NoRf .top

/-- From data, whose slices may bear tags, to data: the result's slices bear those tags, or new ones. -/
def TC (P : Program) (f : Nat) (args : List AV) (Q : Nat → Nat → AV → Prop) : Prop :=
  ∀ n, MC P f args noHeap n fun v H' n' => ∃ v', Vw H' (fun _ => True) (fun k t => k = t) True v v' ∧ Q n n' v'

theorem TC.at {P : Program} {f : Nat} {args : List AV} {H : Heap} {n : Nat} {Q : Nat → Nat → AV → Prop} (hm : TC P f args Q) (ha : ∀ x ∈ args, NoRf x) :
    MC P f args H n (fun v H2 n2 => H2 = H ∧ n ≤ n2 ∧ Q n n2 v) := by
  have hm := hm n
  refine ⟨hm.1, fun X β w cargs hs hr => ?_⟩
  let Xc : Nat → Prop := fun g => X g ∨ ∃ t b p, H t = some b ∧ β t = some p ∧ p.g = g
  let β0 : Bt := fun t => if (H t).isSome then none else match β t with
    | some p => if p.dead then none else some p
    | none => none
  have b0 : ∀ {t p}, β0 t = some p → H t = none ∧ β t = some p ∧ p.dead = false := by
    intro t p hp
    simp only [β0] at hp
    split at hp
    · cases hp
    · rename_i hH
      split at hp
      · rename_i q hq
        split at hp
        · cases hp
        · rename_i hd; cases hp
          refine ⟨?_, hq, by simpa using hd⟩
          cases hh : H t with
          | none => rfl
          | some _ => rw [hh] at hH; simp at hH
      · cases hp
  have b0' : ∀ {t p}, H t = none → β t = some p → p.dead = false → β0 t = some p := by
    intro t p h1 h2 h3
    simp [β0, h1, h2, h3]
  have hxlt : ∀ g, Xc g → g < w.heap.size := by
    rintro g (h | ⟨t, b, p, _, hp, rfl⟩)
    · exact hs.xlt g h
    · exact hs.plt hp
  have hs0 : HSim Xc β0 w noHeap n := by
    refine ⟨fun t p hp => hs.lt t p (b0 hp).2.1, fun t t' p p' hp hp' hg hd hd' => hs.inj t t' p p' (b0 hp).2.1 (b0 hp').2.1 hg hd hd', ?_, (fun t es h => by cases h), hxlt⟩
    intro t p hp
    obtain ⟨h1, h2, h3⟩ := b0 hp
    obtain ⟨g1, g2⟩ := hs.blk t p h2
    refine ⟨?_, g2⟩
    rintro (h | ⟨t', b', p', hH', hp', hpg⟩)
    · exact g1 h
    · obtain ⟨q, hq, hd, _⟩ := hs.dom t' b' hH'
      rw [hp'] at hq; cases hq
      have := hs.inj t' t p' p hp' h2 hpg hd h3
      subst this
      rw [h1] at hH'; cases hH'
  have hno : ∀ g, okB X β H g → okB Xc β0 noHeap g := by
    intro g hg
    refine ⟨?_, fun t es p h => by cases h⟩
    rintro (h | ⟨t, b, p, hH, hp, hpg⟩)
    · exact hg.1 h
    · exact hg.2 t b p hH hp hpg
  have hin : ∀ {u : Value} {x : AV}, Rep β (okB X β H) w u x → NoRf x → Rep β0 (okB Xc β0 noHeap) w u x := by
    intro u x hr
    induction hr with
    | top v => intro _; exact .top v
    | b x => intro _; exact .b x
    | i k m => intro _; exact .i k m
    | s x => intro _; exact .s x
    | agg vs cs hl h ih =>
      intro ht
      cases ht with
      | agg _ ht => exact .agg vs cs hl fun j y hy => ih j y hy (ht y (List.mem_of_getElem? hy))
    | tup vs cs hl h ih =>
      intro ht
      cases ht with
      | tup _ ht => exact .tup vs cs hl fun j y hy => ih j y hy (ht y (List.mem_of_getElem? hy))
    | nl => intro _; exact .nl
    | sl0 t a c => intro _; exact .sl0 t a c
    | sl g o c sz t xs cv hc hg hlt htt hss hm hr ih =>
      intro ht
      cases ht with
      | sl _ _ ht =>
        refine .sl g o c sz t xs cv hc (hno g hg) hlt ?_ hss hm fun i x j y hx hy => ih i x j y hx hy (ht x (List.mem_of_getElem? hx) y (List.mem_of_getElem? hy))
        intro k hk
        obtain ⟨p, hp, hpg, hd⟩ := htt k hk
        refine ⟨p, b0' ?_ hp hd, hpg, hd⟩
        cases hh : H k with
        | none => rfl
        | some b => exact absurd hpg (hg.2 k b p hh hp)
    | rf t st m a c p hp ha hc h0 => intro ht; cases ht
    | pr e o g b cv hg hlt hm hr ih => intro ht; cases ht
    | ad t i o p hp => intro ht; cases ht
    | fn f caps vs hl h ih =>
      intro ht
      cases ht with
      | fn _ _ ht => exact .fn f caps vs hl fun j y hy => ih j y hy (ht y (List.mem_of_getElem? hy))
  have hr0 : LRep β0 (okB Xc β0 noHeap) w cargs args := ⟨hr.1, fun j y hy => hin (hr.2 j y hy) (ha y (List.mem_of_getElem? hy))⟩
  refine Calls.mono (hm.2 Xc β0 w cargs hs0 hr0) ?_
  rintro e w' ⟨cv, v, β', Hc, n', he, ⟨v', hvw, hQ⟩, hs', hrep, hcx⟩
  have hnoown : ∀ g, ¬ Entry.own ⟨Xc, β0, noHeap, n, w⟩ g := by rintro g ⟨t, es, p, h, _⟩; cases h
  have hold : ∀ g, g < w.heap.size → w'.heap[g]? = w.heap[g]? := fun g hg => hcx.old g hg (hnoown g)
  have hnew : ∀ t p, n ≤ t → β' t = some p → w.heap.size ≤ p.g := by
    intro t p ht hp
    rcases Nat.lt_or_ge p.g w.heap.size with h | h
    · exact absurd (hcx.new t p ht hp h) (hnoown _)
    · exact h
  have hback : ∀ t p, t < n → β' t = some p → β t = some p ∧ p.dead = false := by
    intro t p ht hp
    have h1 := hcx.back t p ht hp
    simp only at h1
    cases hb : β0 t with
    | none => rw [hb] at h1; cases h1
    | some q =>
      have := hcx.keep t q hb rfl
      rw [hp] at this; cases this
      exact (b0 hb).2
  have hsz : w.heap.size ≤ w'.heap.size := hcx.size
  have hcell : ∀ g o, g < w.heap.size → w'.cell? ⟨g, o, none⟩ = w.cell? ⟨g, o, none⟩ := fun g o hg => by simp [World.cell?, hold g hg]
  have hdomlt : ∀ t b, H t = some b → t < n := fun t b hb => by obtain ⟨p, hp, _⟩ := hs.dom t b hb; exact hs.lt t p hp
  let β2 : Bt := fun t => if t < n then β t else β' t
  have b2lt : ∀ {t}, t < n → β2 t = β t := fun h => by simp [β2, h]
  have b2ge : ∀ {t}, n ≤ t → β2 t = β' t := fun h => by simp [β2]; omega
  have hnle : n ≤ n' := hcx.le
  have hok2 : ∀ g, okB X β H g → okB X β2 H g := by
    intro g hg
    refine ⟨hg.1, fun t b p hb hp => ?_⟩
    rw [b2lt (hdomlt t b hb)] at hp
    exact hg.2 t b p hb hp
  have hokn : ∀ g, ¬ Xc g → okB X β2 H g := by
    intro g hg
    refine ⟨fun hx => hg (.inl hx), fun t b p hb hp hpg => ?_⟩
    rw [b2lt (hdomlt t b hb)] at hp
    exact hg (.inr ⟨t, b, p, hb, hp, hpg⟩)
  have hstp : Stp β (okB X β H) w β2 (okB X β2 H) w' := by
    refine ⟨fun t p hp => ⟨p, by rw [b2lt (hs.lt t p hp)]; exact hp, rfl, rfl, rfl, rfl, rfl⟩, fun t p hp _ _ => by rw [b2lt (hs.lt t p hp)]; exact hp, hsz, fun g hgl hg => hok2 g hg, fun g o hg _ => hcell g o hg⟩
  have hs2 : HSim X β2 w' H n' := by
    refine ⟨?_, ?_, ?_, ?_, fun g hg => by have := hs.xlt g hg; omega⟩
    · intro t p hp
      by_cases ht : t < n
      · omega
      · rw [b2ge (by omega)] at hp; exact hs'.lt t p hp
    · intro t t' p p' hp hp' hgg hd hd'
      by_cases ht : t < n <;> by_cases ht' : t' < n
      · rw [b2lt ht] at hp; rw [b2lt ht'] at hp'; exact hs.inj t t' p p' hp hp' hgg hd hd'
      · rw [b2lt ht] at hp; rw [b2ge (by omega)] at hp'
        have h1 := hs.plt hp; have h2 := hnew _ _ (by omega) hp'; omega
      · rw [b2ge (by omega)] at hp; rw [b2lt ht'] at hp'
        have h1 := hs.plt hp'; have h2 := hnew _ _ (by omega) hp; omega
      · rw [b2ge (by omega)] at hp hp'; exact hs'.inj t t' p p' hp hp' hgg hd hd'
    · intro t p hp
      by_cases ht : t < n
      · rw [b2lt ht] at hp
        obtain ⟨h1, cur, e, h2, h3⟩ := hs.blk t p hp
        exact ⟨h1, cur, e, by rw [hold _ (hs.plt hp)]; exact h2, h3⟩
      · rw [b2ge (by omega)] at hp
        obtain ⟨h1, h2⟩ := hs'.blk t p hp
        exact ⟨fun hx => h1 (.inl hx), h2⟩
    · intro t b hb
      obtain ⟨p, hp, hd, hz, hl, hx⟩ := hs.dom t b hb
      refine ⟨p, by rw [b2lt (hdomlt t b hb)]; exact hp, hd, hz, hl, fun i x hi => ⟨(hx i x hi).1, fun j y hj => ?_⟩⟩
      obtain ⟨v, hv, hr⟩ := (hx i x hi).2 j y hj
      exact ⟨v, by rw [hcell _ _ (hs.plt hp)]; exact hv, hr.stp hstp⟩
  have hcx2 : Ctx ⟨X, β, H, n, w⟩ β2 w' H n' := by
    refine ⟨hsz, hcx.os, hcx.tape, hcx.output, hnle, fun t p hp => hstp.tok t p hp, fun t p hp _ => ?_, fun g hg _ => hold g hg, fun t b ht hb => by simp only at hb ⊢; rw [hb]; rfl, ?_, ?_, hs.lt⟩
    · simp only at hp
      rw [b2lt (hs.lt t p hp)]; exact hp
    · intro t p ht hp hlt
      simp only at ht hlt
      rw [b2ge ht] at hp
      have := hnew _ _ ht hp
      omega
    · intro t p ht hp
      simp only at ht ⊢
      rw [b2lt ht] at hp
      rw [hp]; rfl
  refine ⟨cv, v', β2, H, n', he, ⟨rfl, hnle, hQ⟩, hs2, ?_, hcx2⟩
  refine hvw.rep (ok' := okB X β2 H) (β' := β2) hs' (fun _ g hg => hokn g hg.1) (fun t b p _ hb hp => hokn _ (hs'.blk t p hp).1) ?_ hrep
  rintro k t p rfl hp hd
  refine ⟨hokn _ (hs'.blk k p hp).1, p, ?_, rfl, hd⟩
  by_cases hk : k < n
  · rw [b2lt hk]; exact (hback k p hk hp).1
  · rw [b2ge (by omega)]; exact hp

theorem norf_nil : ∀ x ∈ ([] : List AV), NoRf x := fun x hx => by cases hx
theorem norf_cons {a : AV} {l : List AV} (h : NoRf a) (hl : ∀ x ∈ l, NoRf x) : ∀ x ∈ a :: l, NoRf x := by
  intro x hx
  rcases List.mem_cons.1 hx with rfl | hx
  · exact h
  · exact hl x hx
theorem norf_ints {u : Option Nat} {xs : List Int} : NoRf (.sl u (xs.map (.i .i64))) := by
  refine .sl _ _ fun x hx y hy => ?_
  obtain ⟨n, _, rfl⟩ := List.mem_map.1 hx
  simp only [AV.cells, List.mem_singleton] at hy
  subst hy; exact .i _ _
theorem norf_ints0 {xs : List Int} : NoRf (ints xs) := norf_ints

/-- A value with tags stands for itself. -/
theorem vwt_ints {H : Heap} {S : Nat → Prop} {u : Option Nat} {xs : List Int} : Vw H S (fun k t => k = t) True (.sl u (xs.map (.i .i64))) (.sl u (xs.map (.i .i64))) := by
  refine .sl u u _ _ (fun _ => trivial) (fun k hk => ⟨k, hk, rfl⟩) rfl ?_ (vwc_flat (fun a => .i _ _) (fun a => rfl))
  intro j x y hx hy; rw [hx] at hy; cases hy; rfl
theorem vwt_rf {H : Heap} {t z m : Nat} {es : List AV} {xs : List Int} (hH : H t = some (z, es)) (hm : m = xs.length) (he : es.take m = xs.map (.i .i64)) : Vw H (fun _ => True) (fun k t => k = t) True (.rf t 0 m) (.sl (some t) (xs.map (.i .i64))) :=
  (vw_rf_tag (T := fun k t => k = t) hH hm he t rfl).mono (fun _ _ h => h) (fun h => h.elim)

/-- Tags of one's own, in the caller's eyes. -/
theorem fz_sl_at {H : Heap} {u : Nat} {xs : List Int} : Fzz H (.sl (some u) (xs.map (.i .i64))) [u] (fun n => .sl (some n) (xs.map (.i .i64))) := fz_ints_sl rfl

section
variable {P : Program} {ks : List KF} {Q : AEx → St → Prop} {r : RT} {f : Nat} {args : List AV} {fr : Fr} {H : Heap} {n : Nat} {d : Nat} {fl : List Nat}
theorem goCall_tc {Q' : Nat → Nat → AV → Prop} (h : TC P f args Q') (ha : ∀ x ∈ args, NoRf x) (hk : ∀ v n', n ≤ n' → Q' n n' v → goR P r ks Q ⟨fr.set d v, H, n'⟩) : goCall P true f args (some d) fl r ks Q ⟨fr, H, n⟩ :=
  goCall_mc (h.at ha) (by rintro v H' n' ⟨rfl, h1, h2⟩; exact ⟨fun s _ => tokKept_refl, hk v n' h1 h2⟩)
end

theorem tc_go {P : Program} {f : Nat} {N : Nat} {c : AC} {res : List AR} (h : Has P f ⟨N, c, res⟩) {args : List AV} {Q : Nat → Nat → AV → Prop} (hl : args.length ≤ N)
    (hx : ∀ n, go P c [] (Fin res (fun v H' n' => ∃ v', Vw H' (fun _ => True) (fun k t => k = t) True v v' ∧ Q n n' v')) ⟨frOf args, noHeap, n⟩) : TC P f args Q := fun n => mc_go h hl (hx n)

end Go.Am
/-! Results with memory of the call's own, as own blocks of the caller. -/
namespace Go.Am
set_option linter.unusedVariables false

/-- Data whose slices all bear tags, and the same as own blocks; the list: which blocks. -/
inductive ThwL : List AV → List AV → List (Nat × List AV) → Prop
  | nil : ThwL [] [] []
  | b (x : Bool) {xs ys bs} (h : ThwL xs ys bs) : ThwL (.b x :: xs) (.b x :: ys) bs
  | i (k : IntKind) (m : Int) {xs ys bs} (h : ThwL xs ys bs) : ThwL (.i k m :: xs) (.i k m :: ys) bs
  | s (x : ByteArray) {xs ys bs} (h : ThwL xs ys bs) : ThwL (.s x :: xs) (.s x :: ys) bs
  | sl0 (t : Option Nat) {xs ys bs} (h : ThwL xs ys bs) : ThwL (.sl t [] :: xs) (.sl none [] :: ys) bs
  | agg {cs ds b1 xs ys bs} (hc : ThwL cs ds b1) (h : ThwL xs ys bs) : ThwL (.agg cs :: xs) (.agg ds :: ys) (b1 ++ bs)
  | tup {cs ds b1 xs ys bs} (hc : ThwL cs ds b1) (h : ThwL xs ys bs) : ThwL (.tup cs :: xs) (.tup ds :: ys) (b1 ++ bs)
  | sl (k z : Nat) {es fs b1 xs ys bs} (hne : es ≠ []) (hm : es.length ≤ maxLen) (hz : 0 < z) (hc : ∀ x ∈ es, x.cells.length = z) (he : ThwL es fs b1) (h : ThwL xs ys bs) :
      ThwL (.sl (some k) es :: xs) (.rf k 0 es.length :: ys) ((k, fs) :: (b1 ++ bs))

theorem ThwL.len {xs ys : List AV} {bs : List (Nat × List AV)} (h : ThwL xs ys bs) : xs.length = ys.length := by
  induction h <;> simp_all

/-- A block's place. -/
def Plc (β : Bt) (w : World) (e : Nat × List AV × Pl) : Prop :=
  (∃ p, β e.1 = some p ∧ p.dead = false ∧ e.2.2.g = p.g) ∧ e.2.2.dead = false ∧ e.2.2.full = false ∧ e.2.2.cap = e.2.1.length ∧ e.2.2.cap ≤ maxLen ∧ 0 < e.2.2.sz ∧ 0 < e.2.1.length ∧
    ∀ i j, i < e.2.1.length → j < e.2.2.sz → (w.cell? ⟨e.2.2.g, e.2.2.b + (i * e.2.2.sz + j), none⟩).isSome
def Held (β : Bt) (ok : Nat → Prop) (w : World) (e : Nat × List AV × Pl) : Prop :=
  ∀ (i : Nat) (x : AV), e.2.1[i]? = some x → x.cells.length = e.2.2.sz ∧ ∀ (j : Nat) (y : AV), x.cells[j]? = some y → ∃ v, w.cell? ⟨e.2.2.g, e.2.2.b + (i * e.2.2.sz + j), none⟩ = some v ∧ Rep β ok w v y
/-- The blocks found in the machine. -/
def Fnd (β : Bt) (w : World) (bs : List (Nat × List AV)) (G : Bt → (Nat → Prop) → Prop) : Prop :=
  ∃ L : List (Nat × List AV × Pl), L.map (fun e => (e.1, e.2.1)) = bs ∧ (∀ e ∈ L, Plc β w e) ∧ ∀ β3 ok3, (∀ e ∈ L, β3 e.1 = some e.2.2) → G β3 ok3 ∧ ∀ e ∈ L, Held β3 ok3 w e

theorem Fnd.nil {β : Bt} {w : World} {G : Bt → (Nat → Prop) → Prop} (h : ∀ β3 ok3, G β3 ok3) : Fnd β w [] G := by
  refine ⟨[], rfl, ?_, fun β3 ok3 _ => ⟨h β3 ok3, ?_⟩⟩
  · intro e he; simp at he
  · intro e he; simp at he
theorem Fnd.mono {β : Bt} {w : World} {bs : List (Nat × List AV)} {G G' : Bt → (Nat → Prop) → Prop} (h : Fnd β w bs G) (hg : ∀ β3 ok3, G β3 ok3 → G' β3 ok3) : Fnd β w bs G' := by
  obtain ⟨L, h1, h2, h3⟩ := h
  exact ⟨L, h1, h2, fun β3 ok3 hL => ⟨hg _ _ (h3 β3 ok3 hL).1, (h3 β3 ok3 hL).2⟩⟩
theorem Fnd.both {β : Bt} {w : World} {b1 b2 : List (Nat × List AV)} {G1 G2 : Bt → (Nat → Prop) → Prop} (h1 : Fnd β w b1 G1) (h2 : Fnd β w b2 G2) : Fnd β w (b1 ++ b2) (fun β3 ok3 => G1 β3 ok3 ∧ G2 β3 ok3) := by
  obtain ⟨L1, a1, a2, a3⟩ := h1
  obtain ⟨L2, c1, c2, c3⟩ := h2
  refine ⟨L1 ++ L2, by rw [List.map_append, a1, c1], fun e he => ?_, fun β3 ok3 hL => ?_⟩
  · rcases List.mem_append.1 he with h | h
    · exact a2 e h
    · exact c2 e h
  · obtain ⟨g1, k1⟩ := a3 β3 ok3 fun e he => hL e (List.mem_append.2 (.inl he))
    obtain ⟨g2, k2⟩ := c3 β3 ok3 fun e he => hL e (List.mem_append.2 (.inr he))
    refine ⟨⟨g1, g2⟩, fun e he => ?_⟩
    rcases List.mem_append.1 he with h | h
    · exact k1 e h
    · exact k2 e h

theorem thw_find {β : Bt} {ok : Nat → Prop} {w : World} {xs ys : List AV} {bs : List (Nat × List AV)} (h : ThwL xs ys bs) :
    (∀ f : Nat → Value, (∀ (j : Nat) (y : AV), xs[j]? = some y → Rep β ok w (f j) y) → Fnd β w bs fun β3 ok3 => ∀ (j : Nat) (y : AV), ys[j]? = some y → Rep β3 ok3 w (f j) y) ∧
    (∀ F : Nat → Nat → Value, (∀ (i : Nat) (x : AV) (j : Nat) (y : AV), xs[i]? = some x → x.cells[j]? = some y → Rep β ok w (F i j) y) → Fnd β w bs fun β3 ok3 => ∀ (i : Nat) (x : AV) (j : Nat) (y : AV), ys[i]? = some x → x.cells[j]? = some y → Rep β3 ok3 w (F i j) y) ∧
    (∀ (i : Nat) (x y : AV), xs[i]? = some x → ys[i]? = some y → x.cells.length = y.cells.length) := by
  -- a part whose cells are itself
  have one : ∀ {x y : AV} {b1 : List (Nat × List AV)} {xs ys : List AV} {bs : List (Nat × List AV)}, x.cells = [x] → y.cells = [y] →
      (∀ cv, Rep β ok w cv x → Fnd β w b1 fun β3 ok3 => Rep β3 ok3 w cv y) →
      ((∀ f : Nat → Value, (∀ (j : Nat) (y : AV), xs[j]? = some y → Rep β ok w (f j) y) → Fnd β w bs fun β3 ok3 => ∀ (j : Nat) (y : AV), ys[j]? = some y → Rep β3 ok3 w (f j) y) ∧
      (∀ F : Nat → Nat → Value, (∀ (i : Nat) (x : AV) (j : Nat) (y : AV), xs[i]? = some x → x.cells[j]? = some y → Rep β ok w (F i j) y) → Fnd β w bs fun β3 ok3 => ∀ (i : Nat) (x : AV) (j : Nat) (y : AV), ys[i]? = some x → x.cells[j]? = some y → Rep β3 ok3 w (F i j) y) ∧
      (∀ (i : Nat) (x y : AV), xs[i]? = some x → ys[i]? = some y → x.cells.length = y.cells.length)) →
      ((∀ f : Nat → Value, (∀ (j : Nat) (y : AV), (x :: xs)[j]? = some y → Rep β ok w (f j) y) → Fnd β w (b1 ++ bs) fun β3 ok3 => ∀ (j : Nat) (z : AV), (y :: ys)[j]? = some z → Rep β3 ok3 w (f j) z) ∧
      (∀ F : Nat → Nat → Value, (∀ (i : Nat) (x' : AV) (j : Nat) (y : AV), (x :: xs)[i]? = some x' → x'.cells[j]? = some y → Rep β ok w (F i j) y) → Fnd β w (b1 ++ bs) fun β3 ok3 => ∀ (i : Nat) (x' : AV) (j : Nat) (z : AV), (y :: ys)[i]? = some x' → x'.cells[j]? = some z → Rep β3 ok3 w (F i j) z) ∧
      (∀ (i : Nat) (a b : AV), (x :: xs)[i]? = some a → (y :: ys)[i]? = some b → a.cells.length = b.cells.length)) := by
    intro x y b1 xs ys bs hx hy hxy ⟨i1, i2, i3⟩
    refine ⟨fun f hf => ?_, fun F hF => ?_, ?_⟩
    · refine (Fnd.both (hxy (f 0) (hf 0 x rfl)) (i1 (fun j => f (j + 1)) fun j y hj => hf (j + 1) y (by simpa using hj))).mono ?_
      rintro β3 ok3 ⟨g1, g2⟩ j z hz
      cases j with
      | zero => simp at hz; subst hz; exact g1
      | succ j => exact g2 j z (by simpa using hz)
    · refine (Fnd.both (hxy (F 0 0) (hF 0 x 0 x rfl (by rw [hx]; rfl))) (i2 (fun i j => F (i + 1) j) fun i x' j y hi hj => hF (i + 1) x' j y (by simpa using hi) hj)).mono ?_
      rintro β3 ok3 ⟨g1, g2⟩ i x' j z hi hj
      cases i with
      | zero =>
        simp at hi; subst hi
        rw [hy] at hj
        cases j with
        | zero => simp at hj; subst hj; exact g1
        | succ j => simp at hj
      | succ i => exact g2 i x' j z (by simpa using hi) hj
    · intro i a b ha hb
      cases i with
      | zero => simp at ha hb; subst ha; subst hb; rw [hx, hy]; rfl
      | succ i => exact i3 i a b (by simpa using ha) (by simpa using hb)
  induction h with
  | nil => exact ⟨fun f _ => .nil fun β3 ok3 j y hy => by simp at hy, fun F _ => .nil fun β3 ok3 i x j y hx => by simp at hx, fun i x y hx => by simp at hx⟩
  | b x h ih => exact one (b1 := []) rfl rfl (fun cv hr => .nil fun β3 ok3 => by cases hr; exact .b x) ih
  | i k m h ih => exact one (b1 := []) rfl rfl (fun cv hr => .nil fun β3 ok3 => by cases hr; exact .i k m) ih
  | s x h ih => exact one (b1 := []) rfl rfl (fun cv hr => .nil fun β3 ok3 => by cases hr; exact .s x) ih
  | sl0 t h ih =>
    refine one (b1 := []) rfl rfl (fun cv hr => ?_) ih
    generalize hx : AV.sl t [] = x at hr
    cases hr with
    | sl0 t a c => exact .nil fun β3 ok3 => .sl0 _ _ _
    | sl g o c sz t xs cv hc hg hlt ht hs hm hr =>
      cases hx
      exact .nil fun β3 ok3 => .sl0 _ _ _
    | _ => cases hx
  | tup hc h ihc ih =>
    rename_i cs ds b1 xs ys bs
    refine one (b1 := b1) rfl rfl (fun cv hr => ?_) ih
    cases hr with
    | tup vs _ hl hj => exact (ihc.1 (fun j => (vs[j]?).getD undef) hj).mono fun β3 ok3 hg => .tup vs ds (by rw [hl, hc.len]) hg
  | agg hc h ihc ih =>
    rename_i cs ds b1 xs ys bs
    refine ⟨fun f hf => ?_, fun F hF => ?_, ?_⟩
    · have h0 := hf 0 _ rfl
      generalize hv : f 0 = v0 at h0
      cases h0 with
      | agg vs _ hl hj =>
        refine (Fnd.both (ihc.1 (fun j => (vs[j]?).getD undef) hj) (ih.1 (fun j => f (j + 1)) fun j y hj => hf (j + 1) y (by simpa using hj))).mono ?_
        rintro β3 ok3 ⟨g1, g2⟩ j z hz
        cases j with
        | zero => simp at hz; subst hz; rw [hv]; exact .agg vs ds (by rw [hl, hc.len]) g1
        | succ j => exact g2 j z (by simpa using hz)
    · refine (Fnd.both (ihc.1 (fun j => F 0 j) fun j y hj => hF 0 _ j y rfl hj) (ih.2.1 (fun i j => F (i + 1) j) fun i x' j y hi hj => hF (i + 1) x' j y (by simpa using hi) hj)).mono ?_
      rintro β3 ok3 ⟨g1, g2⟩ i x' j z hi hj
      cases i with
      | zero => simp at hi; subst hi; exact g1 j z hj
      | succ i => exact g2 i x' j z (by simpa using hi) hj
    · intro i a b ha hb
      cases i with
      | zero => simp at ha hb; subst ha; subst hb; exact hc.len
      | succ i => exact ih.2.2 i a b (by simpa using ha) (by simpa using hb)
  | sl k z hne hm hz hcz he h ihe ih =>
    rename_i es fs b1 xs ys bs
    rw [show (k, fs) :: (b1 ++ bs) = ((k, fs) :: b1) ++ bs from rfl]
    refine one (b1 := (k, fs) :: b1) rfl rfl (fun cv hr => ?_) ih
    have hlen := he.len
    have hpos : 0 < es.length := by rw [List.length_pos_iff]; exact hne
    generalize hx : AV.sl (some k) es = x at hr
    cases hr with
    | sl0 t a c => cases hx; exact absurd rfl hne
    | sl g o c sz t xs' cvs hc hg hlt ht hs hmm hrr =>
      cases hx
      obtain ⟨p, hp, hpg, hpd⟩ := ht k rfl
      have hsz : sz = z := by
        obtain ⟨x0, hx0⟩ : ∃ x0, es[0]? = some x0 := ⟨_, List.getElem?_eq_getElem hpos⟩
        rw [← hs 0 x0 hx0, hcz x0 (List.mem_of_getElem? hx0)]
      subst hsz
      obtain ⟨L, hL1, hL2, hL3⟩ := ihe.2.1 cvs hrr
      refine ⟨(k, fs, ⟨g, sz, es.length, false, o, false⟩) :: L, by simp [hL1], ?_, ?_⟩
      · intro e hee
        rcases List.mem_cons.1 hee with rfl | hee
        · refine ⟨⟨p, hp, hpd, hpg.symm⟩, rfl, rfl, hlen, hm, hz, by simp only; omega, fun i j hi hj => ?_⟩
          simp only at hi hj ⊢
          obtain ⟨xi, hxi⟩ : ∃ xi, es[i]? = some xi := ⟨_, List.getElem?_eq_getElem (by omega)⟩
          have := hmm i xi j hxi hj
          rw [Nat.add_assoc] at this
          rw [this]; rfl
        · exact hL2 e hee
      · intro β3 ok3 hβ
        obtain ⟨g1, g2⟩ := hL3 β3 ok3 fun e hee => hβ e (List.mem_cons_of_mem _ hee)
        have hk := hβ _ (List.mem_cons_self ..)
        simp only at hk
        refine ⟨?_, fun e hee => ?_⟩
        · refine .rf k 0 es.length _ c _ hk (fun _ => by simp) hc (fun hf => by cases hf)
        · rcases List.mem_cons.1 hee with rfl | hee
          · intro i x hi
            simp only at hi ⊢
            have hil : i < es.length := by rw [hlen]; exact (List.getElem?_eq_some_iff.1 hi).1
            obtain ⟨xi, hxi⟩ : ∃ xi, es[i]? = some xi := ⟨_, List.getElem?_eq_getElem hil⟩
            have hcl := ihe.2.2 i xi x hxi hi
            have hcs := hcz xi (List.mem_of_getElem? hxi)
            refine ⟨by omega, fun j y hj => ?_⟩
            have hjl : j < x.cells.length := (List.getElem?_eq_some_iff.1 hj).1
            refine ⟨cvs i j, ?_, g1 i x j y hi hj⟩
            have := hmm i xi j hxi (by omega)
            rwa [Nat.add_assoc] at this
          · exact g2 e hee
    | _ => cases hx
/-- The blocks as a heap. -/
def heapOf (bs : List (Nat × List AV)) : Heap := fun t => (bs.find? fun e => e.1 == t).map fun e => (0, e.2)

theorem find_in {α : Type} {L : List (Nat × α)} (nd : (L.map (·.1)).Nodup) {e : Nat × α} (he : e ∈ L) : L.find? (fun x => x.1 == e.1) = some e := by
  induction L with
  | nil => cases he
  | cons a r ih =>
    simp only [List.map_cons, List.nodup_cons] at nd
    rcases List.mem_cons.1 he with rfl | he
    · simp
    · have : a.1 ≠ e.1 := fun h => nd.1 (h ▸ List.mem_map_of_mem (f := fun x => x.1) he)
      simp [this, ih nd.2 he]
theorem find_out {α : Type} {L : List (Nat × α)} {t : Nat} (h : ∀ e ∈ L, e.1 ≠ t) : L.find? (fun x => x.1 == t) = none := by
  rw [List.find?_eq_none]
  intro e he
  simp [h e he]
theorem heapOf_in {bs : List (Nat × List AV)} (nd : (bs.map (·.1)).Nodup) {e : Nat × List AV} (he : e ∈ bs) : heapOf bs e.1 = some (0, e.2) := by
  unfold heapOf; rw [find_in nd he]; rfl
theorem heapOf_some {bs : List (Nat × List AV)} {t : Nat} {b : Blk} (h : heapOf bs t = some b) : (t, b.2) ∈ bs ∧ b.1 = 0 := by
  unfold heapOf at h
  rw [Option.map_eq_some_iff] at h
  obtain ⟨e, he, rfl⟩ := h
  have h1 := List.mem_of_find?_eq_some he
  have h2 := List.find?_some he
  simp at h2
  subst h2
  exact ⟨h1, rfl⟩

/-- The result of a call, as own blocks. -/
theorem PC.own {P : Program} {f : Nat} {args args' : List AV} {R : Nat → AV} {c n : Nat} {y : AV} {bs : List (Nat × List AV)} (hm : PC P f args' R c False) (hv : Vws noHeap (fun _ => True) args args') (ht : ThwL [R n] [y] bs)
    (hk : ∀ e ∈ bs, n ≤ e.1 ∧ e.1 < n + c) (nd : (bs.map (·.1)).Nodup) : MC P f args noHeap n fun v H' n' => v = y ∧ H' = heapOf bs ∧ n' = n + c := by
  have hm2 := pcall (n := n) hm hv (fun h => h.elim)
  refine ⟨hm2.1, fun X β w cargs hs hr => Calls.mono (hm2.2 X β w cargs hs hr) ?_⟩
  rintro e w' ⟨cv, v, β', H', n', he, ⟨rfl, rfl, rfl⟩, hs', hrep, hcx⟩
  obtain ⟨L, hL, hP, hF⟩ := (thw_find ht).1 (fun _ => cv) (fun j y hj => by
    cases j with
    | zero => simp at hj; subst hj; exact hrep
    | succ j => simp at hj)
  have ndL : (L.map (·.1)).Nodup := by
    have : L.map (·.1) = bs.map (·.1) := by rw [← hL, List.map_map]; rfl
    rw [this]; exact nd
  have hkL : ∀ e ∈ L, n ≤ e.1 ∧ e.1 < n + c := fun e he => hk (e.1, e.2.1) (hL ▸ List.mem_map_of_mem (f := fun e => (e.1, e.2.1)) he)
  let β3 : Bt := fun t => match L.find? (fun x => x.1 == t) with
    | some e => some e.2.2
    | none => β' t
  have h3in : ∀ e ∈ L, β3 e.1 = some e.2.2 := fun e he => by simp only [β3, find_in ndL he]
  have h3out : ∀ t, (∀ e ∈ L, e.1 ≠ t) → β3 t = β' t := fun t h => by simp only [β3, find_out h]
  have hlow : ∀ t, t < n → β3 t = β' t := fun t h => h3out t fun e he => by have := (hkL e he).1; omega
  have h3 : ∀ t p3, β3 t = some p3 → ∃ p, β' t = some p ∧ p.g = p3.g ∧ (p3.dead = false → p.dead = false) := by
    intro t p3 hp
    by_cases h : ∃ e ∈ L, e.1 = t
    · obtain ⟨e, he, rfl⟩ := h
      rw [h3in e he] at hp; cases hp
      obtain ⟨p, h1, h2, h3⟩ := (hP e he).1
      exact ⟨p, h1, h3.symm, fun _ => h2⟩
    · rw [h3out t fun e he h' => h ⟨e, he, h'⟩] at hp
      exact ⟨p3, hp, rfl, fun h => h⟩
  obtain ⟨hy, hH⟩ := hF β3 (okB X β3 (heapOf bs)) h3in
  have hs3 : HSim X β3 w' (heapOf bs) (n + c) := by
    refine ⟨?_, ?_, ?_, ?_, hs'.xlt⟩
    · intro t p hp
      obtain ⟨q, hq, _⟩ := h3 t p hp
      exact hs'.lt t q hq
    · intro t t' p p' hp hp' hg hd hd'
      obtain ⟨q, hq, e1, d1⟩ := h3 t p hp
      obtain ⟨q', hq', e2, d2⟩ := h3 t' p' hp'
      exact hs'.inj t t' q q' hq hq' (by rw [e1, e2, hg]) (d1 hd) (d2 hd')
    · intro t p hp
      by_cases h : ∃ e ∈ L, e.1 = t
      · obtain ⟨e, he, rfl⟩ := h
        rw [h3in e he] at hp; cases hp
        obtain ⟨⟨q, h1, h2, h3⟩, _, hfull, hcap, hmax, hsz, hlen, hcell⟩ := hP e he
        obtain ⟨hX, cur, el, hh, _⟩ := hs'.blk e.1 q h1
        rw [← h3] at hX hh
        refine ⟨hX, cur, el, hh, ⟨?_, fun h => by rw [hfull] at h; cases h⟩, hmax⟩
        have := hcell (e.2.1.length - 1) (e.2.2.sz - 1) (by omega) (by omega)
        simp only [World.cell?, hh] at this
        simp only [Option.isSome_none, Bool.false_eq_true, if_false] at this
        have hlt : e.2.2.b + ((e.2.1.length - 1) * e.2.2.sz + (e.2.2.sz - 1)) < cur.size := by
          rcases Nat.lt_or_ge (e.2.2.b + ((e.2.1.length - 1) * e.2.2.sz + (e.2.2.sz - 1))) cur.size with h | h
          · exact h
          · rw [Array.getElem?_eq_none h] at this; cases this
        rw [hcap]
        have hmul : e.2.1.length * e.2.2.sz = (e.2.1.length - 1) * e.2.2.sz + e.2.2.sz := by
          obtain ⟨m, hm⟩ : ∃ m, e.2.1.length = m + 1 := ⟨e.2.1.length - 1, by omega⟩
          rw [hm, Nat.add_sub_cancel, Nat.add_mul, Nat.one_mul]
        omega
      · rw [h3out t fun e he h' => h ⟨e, he, h'⟩] at hp
        exact hs'.blk t p hp
    · intro t b hb
      obtain ⟨hmem, hb0⟩ := heapOf_some hb
      rw [← hL] at hmem
      obtain ⟨e, he, hee⟩ := List.mem_map.1 hmem
      obtain ⟨z, es⟩ := b
      simp only [Prod.mk.injEq] at hee
      obtain ⟨rfl, rfl⟩ := hee
      obtain ⟨_, hd, _, hcap, _⟩ := hP e he
      refine ⟨e.2.2, h3in e he, hd, .inr hb0, by simp only; omega, ?_⟩
      intro i x hi
      exact hH e he i x hi
  refine ⟨cv, y, β3, heapOf bs, n + c, he, ⟨rfl, rfl, rfl⟩, hs3, hy 0 y rfl, ?_⟩
  refine ⟨hcx.size, hcx.os, hcx.tape, hcx.output, hcx.le, fun t p hp => ?_, fun t p hp h0 => ?_, hcx.old, fun t b htn hb => ?_, fun t p htn hp hlt => ?_, fun t p htn hp => ?_, hcx.elt⟩
  · rw [hlow t (hcx.elt t p hp)]; exact hcx.tok t p hp
  · rw [hlow t (hcx.elt t p hp)]; exact hcx.keep t p hp h0
  · have := (hk _ (heapOf_some hb).1).1
    simp only at this htn
    omega
  · obtain ⟨q, hq, e1, _⟩ := h3 t p hp
    have := hcx.new t q htn hq (by rw [e1]; exact hlt)
    rwa [e1] at this
  · rw [hlow t htn] at hp; exact hcx.back t p htn hp

theorem tgd_cells {x : AV} (h : Tgd x) : ∀ y ∈ x.cells, Tgd y := by
  cases h with
  | agg cs h => exact h
  | _ =>
    intro y hy
    simp only [AV.cells, List.mem_singleton] at hy
    subst hy
    constructor <;> assumption
theorem thw_tgd {xs ys : List AV} {bs : List (Nat × List AV)} (h : ThwL xs ys bs) : (∀ y ∈ ys, Tgd y) ∧ ∀ e ∈ bs, ∀ x ∈ e.2, ∀ y ∈ x.cells, Tgd y := by
  have cons : ∀ {y : AV} {ys : List AV}, Tgd y → (∀ y ∈ ys, Tgd y) → ∀ z ∈ y :: ys, Tgd z := by
    intro y ys h1 h2 z hz
    rcases List.mem_cons.1 hz with rfl | hz
    · exact h1
    · exact h2 z hz
  have app : ∀ {b1 b2 : List (Nat × List AV)}, (∀ e ∈ b1, ∀ x ∈ e.2, ∀ y ∈ x.cells, Tgd y) → (∀ e ∈ b2, ∀ x ∈ e.2, ∀ y ∈ x.cells, Tgd y) → ∀ e ∈ b1 ++ b2, ∀ x ∈ e.2, ∀ y ∈ x.cells, Tgd y := by
    intro b1 b2 h1 h2 e he
    rcases List.mem_append.1 he with h | h
    · exact h1 e h
    · exact h2 e h
  induction h with
  | nil => exact ⟨fun y h => by simp at h, fun e h => by simp at h⟩
  | b x h ih => exact ⟨cons (.b x) ih.1, ih.2⟩
  | i k m h ih => exact ⟨cons (.i k m) ih.1, ih.2⟩
  | s x h ih => exact ⟨cons (.s x) ih.1, ih.2⟩
  | sl0 t h ih => exact ⟨cons (.sl0 none) ih.1, ih.2⟩
  | agg hc h ihc ih => exact ⟨cons (.agg _ ihc.1) ih.1, app ihc.2 ih.2⟩
  | tup hc h ihc ih => exact ⟨cons (.tup _ ihc.1) ih.1, app ihc.2 ih.2⟩
  | sl k z hne hm hz hc he h ihe ih =>
    refine ⟨cons (.rf _ _ _) ih.1, fun e hee => ?_⟩
    rcases List.mem_cons.1 hee with rfl | hee
    · exact fun x hx => tgd_cells (ihe.1 x hx)
    · exact app ihe.2 ih.2 e hee

/-- The same, over the caller's memory. -/
theorem PC.own_at {P : Program} {f : Nat} {args args' : List AV} {R : Nat → AV} {c n : Nat} {y : AV} {bs : List (Nat × List AV)} {H : Heap} (hm : PC P f args' R c False) (hv0 : Vws noHeap (fun _ => True) args' args') (hv : Vws H (fun _ => True) args args')
    (ht : ThwL [R n] [y] bs) (hk : ∀ e ∈ bs, n ≤ e.1 ∧ e.1 < n + c) (nd : (bs.map (·.1)).Nodup) : MC P f args H n fun v H2 n2 => n2 = n + c ∧ v = y ∧ H2 = joinH n H (heapOf bs) := by
  refine (MC.lift (Q2 := fun v Hk n2 => v = y ∧ Hk = heapOf bs ∧ n2 = n + c) (PC.own hm hv0 ht hk nd) hv ?_).mono ?_
  · rintro v Hc n2 ⟨rfl, rfl, rfl⟩
    refine ⟨heapOf bs, ⟨(thw_tgd ht).1 _ (List.mem_singleton.2 rfl), fun t b hb => ⟨b.2, hb, ⟨b.2.length, by rw [List.take_length]⟩, fun x hx y hy => ?_⟩⟩, rfl, rfl, rfl⟩
    exact (thw_tgd ht).2 _ (heapOf_some hb).1 x hx y hy
  · rintro v H2 n2 ⟨h1, Hk, ⟨rfl, rfl, rfl⟩, rfl⟩
    exact ⟨rfl, rfl, rfl⟩

end Go.Am
/-! The row: arguments as data, and what stands behind the call. -/
namespace Go.Am
open Go.ChangeShapes Go.WideShapes Go.ChangeAt Go.RowKit
set_option linter.unusedVariables false

section
variable {H : Type} {enc : TypeId × Value → H} {P : Program}

theorem trodAll_stays (hl : laidOutB P = true) {W W' : World} (hb : Below W.heap.size W W') {sp : Nat → Bool} : ∀ {ts : List TypeId} {vs : List Value} {ds : List (DataW H)} {ps : List MemPlace},
    (∀ t ∈ ts, P.readableRec t = true ∧ t < P.types.size) → DataW.TrodAll enc P W 0 (fun _ => true) true ts vs ds ps → (∀ x ∈ ps, x.block < W.heap.size) → (∀ x ∈ ps, sp x.block = true) → DataW.TrodAll enc P W' 0 sp true ts vs ds ps
  | [], [], [], ps, _, h, _, _ => h
  | t :: ts, v :: vs, d :: ds, ps, hr, h, hlt, hsp => by
    obtain ⟨p, q, h1, h2, rfl⟩ := h
    obtain ⟨r1, r2⟩ := hr t (by simp)
    refine ⟨p, q, WideElems.Trod_stays hl r1 r2 h1 (fun x hx => hb.same (hlt x (by simp [hx]))) (fun x hx => hsp x (by simp [hx])), trodAll_stays hl hb (fun t ht => hr t (by simp [ht])) h2 (fun x hx => hlt x (by simp [hx])) (fun x hx => hsp x (by simp [hx])), rfl⟩
  | [], [], _ :: _, _, _, h, _, _ => h.elim
  | [], _ :: _, _, _, _, h, _, _ => h.elim
  | _ :: _, [], _, _, _, h, _, _ => h.elim
  | _ :: _, _ :: _, [], _, _, h, _, _ => h.elim

/-- Behind a call that leaves all that was there alone. -/
theorem post_below {f : Func} {s : ChangeSpec} {apart fresh handsOn again : Bool} {W W' : World} {args : Array Value} {v : Value} {ds gs : List (DataW H)} {before : List MemPlace} (hl : laidOutB P = true)
    (hr : ∀ t ∈ f.params.toList, P.readableRec t = true ∧ t < P.types.size) (hv : s.vars = []) (hW : DataW.Whole enc P f.params.toList s.vars apart W args.toList ds gs before) (hb : Below W.heap.size W W')
    (ha : (s.fn H (ds ++ gs)).args = ds) (hg : (s.fn H (ds ++ gs)).vars = [])
    (hres : ∀ (b : Nat) (sp : Nat → Bool) (hd : Bool), DataW.TrodAll enc P W' b sp hd f.resultTypes.toList (v.resultList f.resultTypes.size) (s.fn H (ds ++ gs)).results [])
    (hok : ∀ (j : Nat) (t : TypeId) (r : Value), f.resultTypes[j]? = some t → (v.resultList f.resultTypes.size)[j]? = some r → Value.okWide P W' .any 0 t r) :
    s.post enc P f apart fresh handsOn again W args v W' := by
  have hlt := hW.lt
  have hold : ∀ p ∈ before, (fun b => decide (b < W.heap.size)) p.block = true := fun p hp => by simpa using hlt p hp
  obtain ⟨pa, pv, hA, hV, hbe, hz, hn⟩ := id hW
  have hpv : pv = [] := by
    rw [hv] at hV
    cases gs with
    | nil => exact hV
    | cons _ _ => exact hV.elim
  subst hpv
  simp only [List.append_nil] at hbe
  subst hbe
  have hargs : ∀ sp : Nat → Bool, (∀ p ∈ before, sp p.block = true) → DataW.TrodAll enc P W' 0 sp true f.params.toList args.toList (s.fn H (ds ++ gs)).args before := by
    intro sp hsp
    rw [ha]
    exact trodAll_stays hl hb hr hA hlt hsp
  have hvars : ∀ sp : Nat → Bool, DataW.TrodVars enc P W' sp s.vars (s.fn H (ds ++ gs)).vars [] := by
    intro sp
    rw [hv, hg]
    rfl
  refine ⟨ds, gs, before, [], before, [], hW, hres _ _ _, hargs _ hold, hvars _, World.keptBut_mono (fun p hp => ⟨hp, by simpa using hp⟩) ((World.keptBut_refl W _).congr hb.os hb.output hb.block), fun _ => ?_⟩
  refine ⟨hok, _, _, ([] ++ before) ++ [], ⟨[] ++ before, [], trodAll_append (hargs _ (fun _ _ => rfl)) (hres _ _ _), hvars _, rfl, ?_, ?_⟩, ?_⟩
  · intro b off hp
    have hp' : MemPlace.cell b off ∈ before := by simpa using hp
    have := hz b off hp'
    have hbl := hlt _ hp'
    simp only [World.frozen?] at this ⊢
    rw [hb.block b hbl]
    exact this
  · intro hap
    have := hn hap
    simpa using this
  · intro p hp _
    simpa using hp
end

end Go.Am
/-! The arguments of a row, as the abstract machine sees them. -/
namespace Go.Am
set_option linter.unusedVariables false
set_option linter.unusedSimpArgs false

def aggT (P : Program) (t : TypeId) : Bool :=
  match P.underlying t with
  | some (.struct _) => true
  | some (.array _ _) => true
  | _ => false

/-- An element of its cells. -/
def mkE (P : Program) (t : TypeId) (zs : List AV) : AV := if aggT P t then .agg zs else zs.headD .top

/-- The cells of a value of this type. -/
def Tyc (P : Program) : Nat → TypeId → List AV → Prop
  | 0, _, _ => False
  | f + 1, t, ys =>
    match P.underlying t with
    | some .bool => ∃ b, ys = [.b b]
    | some (.int k) => ∃ n, ys = [.i k n] ∧ (Lit.int k n).wf = true
    | some .string => ∃ s, ys = [.s s] ∧ s.size ≤ maxLen
    | some (.slice e) => ∃ es : List (List AV), ys = [.sl none (es.map (mkE P e))] ∧ es.length ≤ maxLen ∧ ∀ z ∈ es, Tyc P f e z
    | some (.struct fs) => ys.length = P.cellsOf t ∧ ∀ g ∈ fs.toList, Tyc P f g.type ((ys.drop g.offset).take (P.cellsOf g.type))
    | _ => True

inductive LArg (β : Bt) (ok : Nat → Prop) (w : World) : List Value → List AV → Prop
  | nil : LArg β ok w [] []
  | cons {v : Value} {y : AV} {vs : List Value} {ys : List AV} (h : Rep β ok w v y) (hs : LArg β ok w vs ys) : LArg β ok w (v :: vs) (y :: ys)

section
variable {β : Bt} {ok : Nat → Prop} {w : World}

theorem LArg.len {vs : List Value} {ys : List AV} (h : LArg β ok w vs ys) : vs.length = ys.length := by
  induction h with
  | nil => rfl
  | cons _ _ ih => simp [ih]

theorem LArg.append {vs vs' : List Value} {ys ys' : List AV} (h : LArg β ok w vs ys) (h' : LArg β ok w vs' ys') : LArg β ok w (vs ++ vs') (ys ++ ys') := by
  induction h with
  | nil => exact h'
  | cons h _ ih => exact .cons h ih

theorem LArg.at {vs : List Value} {ys : List AV} (h : LArg β ok w vs ys) : ∀ {j : Nat} {v : Value} {y : AV}, vs[j]? = some v → ys[j]? = some y → Rep β ok w v y := by
  induction h with
  | nil => intro j v y hv; simp at hv
  | cons h _ ih =>
    intro j v y hv hy
    cases j with
    | zero => simp at hv hy; subst hv; subst hy; exact h
    | succ j => exact ih (by simpa using hv) (by simpa using hy)

theorem LArg.tops : ∀ (vs : List Value), LArg β ok w vs (List.replicate vs.length .top)
  | [] => .nil
  | v :: vs => .cons (.top v) (LArg.tops vs)
end

/-- The fields of a struct lie one behind the other. -/
def contig (P : Program) : List Field → Nat → Option Nat
  | [], o => some o
  | g :: r, o => if g.offset = o then contig P r (o + P.cellsOf g.type) else none

/-- Every struct of the program is laid out so; every slice's elements have a cell. -/
def rowAt (P : Program) (t : TypeId) : Bool :=
  match P.underlying t with
  | some (.struct fs) => contig P fs.toList 0 == some (P.cellsOf t) && fs.toList.all fun g => decide (g.type < P.types.size)
  | some (.slice e) => decide (0 < P.cellsOf e) && (aggT P e || P.cellsOf e == 1) && decide (e < P.types.size)
  | _ => true

def rowsOk (P : Program) : Bool := (List.range P.types.size).all (rowAt P)

theorem rowsOk_at {P : Program} (h : rowsOk P = true) {t : TypeId} (hlt : t < P.types.size) : rowAt P t = true := List.all_eq_true.1 h t (List.mem_range.2 hlt)

theorem mapM_some {α γ : Type} {f : α → Option γ} : ∀ {l : List α} {r : List γ}, l.mapM f = some r → r.length = l.length ∧ ∀ a ∈ l, ∃ x, f a = some x
  | [], r, h => by simp at h; subst h; exact ⟨rfl, fun a ha => by cases ha⟩
  | a :: l, r, h => by
    simp only [List.mapM_cons, Option.bind_eq_bind, Option.bind_eq_some_iff, Option.pure_def, Option.some.injEq] at h
    obtain ⟨x, hx, r', hr, rfl⟩ := h
    obtain ⟨h1, h2⟩ := mapM_some hr
    refine ⟨by simp [h1], fun b hb => ?_⟩
    rcases List.mem_cons.1 hb with rfl | hb
    · exact ⟨x, hx⟩
    · exact h2 b hb

theorem choose_list {α : Type} {Q : Nat → α → Prop} : ∀ (n : Nat), (∀ i, i < n → ∃ z, Q i z) → ∃ l : List α, l.length = n ∧ ∀ i z, l[i]? = some z → Q i z
  | 0, _ => ⟨[], rfl, fun i z h => by simp at h⟩
  | n + 1, h => by
    obtain ⟨l, h1, h2⟩ := choose_list n (fun i hi => h i (by omega))
    obtain ⟨z, hz⟩ := h n (by omega)
    refine ⟨l ++ [z], by simp [h1], fun i y hy => ?_⟩
    by_cases hi : i < l.length
    · rw [List.getElem?_append_left hi] at hy; exact h2 i y hy
    · rw [List.getElem?_append_right (by omega)] at hy
      have e : i - l.length = 0 := by
        cases hk : i - l.length with
        | zero => rfl
        | succ k => rw [hk] at hy; simp at hy
      rw [e] at hy
      simp at hy
      subst hy
      have : i = n := by omega
      subst this
      exact hz

theorem cells?_at {w : World} {base : Nat} {a : Addr} : ∀ {n : Nat} {row : List Value}, w.cells? base a n = some row → row.length = n ∧ ∀ j, j < n → w.cell? (a.add j) = row[j]? := by
  intro n row h
  unfold World.cells? at h
  split at h
  · have aux : ∀ (l : List Nat) (r : List Value), l.mapM (fun (i : Nat) => w.cell? (a.add i)) = some r → r.length = l.length ∧ ∀ (j i : Nat), l[j]? = some i → w.cell? (a.add i) = r[j]? := by
      intro l
      induction l with
      | nil => intro r h; simp at h; subst h; exact ⟨rfl, fun j i hj => by simp at hj⟩
      | cons b l ih =>
        intro r h
        simp only [List.mapM_cons, Option.bind_eq_bind, Option.bind_eq_some_iff, Option.pure_def, Option.some.injEq] at h
        obtain ⟨x, hx, r', hr, rfl⟩ := h
        obtain ⟨h1, h2⟩ := ih r' hr
        refine ⟨by simp [h1], fun j i hj => ?_⟩
        cases j with
        | zero => simp at hj; subst hj; simpa using hx
        | succ j => simpa using h2 j i (by simpa using hj)
    obtain ⟨h1, h2⟩ := aux _ _ h
    refine ⟨by simpa using h1, fun j hj => h2 j j (by simp [hj])⟩
  · cases h

section
variable {H : Type} {enc : TypeId × Value → H} {P : Program} {β : Bt} {ok : Nat → Prop} {w : World}

theorem fields_rep {fuel base : Nat} {sp : Nat → Bool} {held : Bool} (ih : ∀ (t : TypeId) (cs : List Value) (d : DataW H) (ps : List MemPlace), t < P.types.size → DataW.trod enc P w base sp held fuel t cs = some (d, ps) →
      ∃ ys, LArg β ok w cs ys ∧ Tyc P fuel t ys ∧ ∀ y ∈ ys, y.cells = [y]) (cs : List Value) : ∀ (fs : List Field) (o tot : Nat), contig P fs o = some tot → tot = cs.length → o ≤ tot →
      (∀ g ∈ fs, g.type < P.types.size) → (∀ g ∈ fs, ∃ x, DataW.trod enc P w base sp held fuel g.type ((cs.drop g.offset).take (P.cellsOf g.type)) = some x) →
      ∃ ys, LArg β ok w (cs.drop o) ys ∧ (∀ g ∈ fs, o ≤ g.offset ∧ Tyc P fuel g.type ((ys.drop (g.offset - o)).take (P.cellsOf g.type))) ∧ ∀ y ∈ ys, y.cells = [y]
  | [], o, tot, hc, ht, ho, _, _ => by
    simp only [contig, Option.some.injEq] at hc
    refine ⟨[], ?_, (fun g hg => by cases hg), (fun y hy => by cases hy)⟩
    rw [List.drop_eq_nil_of_le (by omega)]
    exact .nil
  | g :: r, o, tot, hc, ht, ho, hty, hx => by
    simp only [contig] at hc
    split at hc
    · rename_i he
      obtain ⟨⟨d, ps⟩, hd⟩ := hx g (by simp)
      obtain ⟨ys1, l1, t1, c1⟩ := ih _ _ _ _ (hty g (by simp)) hd
      have hle : o + P.cellsOf g.type ≤ tot := by
        have aux : ∀ (l : List Field) (a b : Nat), contig P l a = some b → a ≤ b := by
          intro l
          induction l with
          | nil => intro a b h; simp only [contig, Option.some.injEq] at h; omega
          | cons q l ih' =>
            intro a b h
            simp only [contig] at h
            split at h
            · have := ih' _ _ h; omega
            · cases h
        exact aux _ _ _ hc
      obtain ⟨ys2, l2, t2, c2⟩ := fields_rep ih cs r _ tot hc ht hle (fun q hq => hty q (by simp [hq])) (fun q hq => hx q (by simp [hq]))
      have hlen : ys1.length = P.cellsOf g.type := by
        rw [← l1.len, List.length_take, List.length_drop, he]; omega
      refine ⟨ys1 ++ ys2, ?_, ?_, ?_⟩
      · have e : cs.drop o = (cs.drop g.offset).take (P.cellsOf g.type) ++ cs.drop (o + P.cellsOf g.type) := by
          rw [he]
          conv => lhs; rw [← List.take_append_drop (P.cellsOf g.type) (cs.drop o)]
          rw [List.drop_drop]
        rw [e]
        exact l1.append l2
      · intro q hq
        rcases List.mem_cons.1 hq with rfl | hq
        · refine ⟨by omega, ?_⟩
          rw [he, Nat.sub_self, List.drop_zero, ← hlen, List.take_left']
          · exact t1
          · rfl
        · obtain ⟨a1, a2⟩ := t2 q hq
          refine ⟨by omega, ?_⟩
          rw [show q.offset - o = ys1.length + (q.offset - (o + P.cellsOf g.type)) by omega, ← List.drop_drop, List.drop_left']
          · exact a2
          · rfl
      · intro y hy
        rcases List.mem_append.1 hy with h | h
        · exact c1 y h
        · exact c2 y h
    · cases hc

theorem trod_rep (hR : rowsOk P = true) (hok : ∀ g, g < w.heap.size → ok g) {base : Nat} {sp : Nat → Bool} {held : Bool} : ∀ (fuel : Nat) (t : TypeId) (cs : List Value) (d : DataW H) (ps : List MemPlace), t < P.types.size → DataW.trod enc P w base sp held fuel t cs = some (d, ps) →
    ∃ ys, LArg β ok w cs ys ∧ Tyc P fuel t ys ∧ ∀ y ∈ ys, y.cells = [y] := by
  intro fuel
  induction fuel with
  | zero => intro t cs d ps _ h; simp [DataW.trod] at h
  | succ fuel ih =>
    intro t cs d ps hlt h
    have other : (∀ ys, Tyc P (fuel + 1) t ys) → ∃ ys, LArg β ok w cs ys ∧ Tyc P (fuel + 1) t ys ∧ ∀ y ∈ ys, y.cells = [y] := by
      intro ht
      refine ⟨_, LArg.tops cs, ht _, fun y hy => ?_⟩
      rw [List.eq_of_mem_replicate hy]; rfl
    cases hu : P.underlying t with
    | none => exact other fun ys => by simp only [Tyc, hu]
    | some desc =>
      simp only [DataW.trod, hu] at h
      cases desc <;> try (refine other fun ys => ?_; simp only [Tyc, hu]; done)
      case bool =>
        cases cs with
        | nil => simp at h
        | cons v r =>
          cases r with
          | cons _ _ => cases v <;> simp at h
          | nil =>
            cases v with
            | bool b => exact ⟨[.b b], .cons (.b b) .nil, by simp only [Tyc, hu]; exact ⟨b, rfl⟩, fun y hy => by simp at hy; subst hy; rfl⟩
            | _ => simp at h
      case int k =>
        cases cs with
        | nil => simp at h
        | cons v r =>
          cases r with
          | cons _ _ => cases v <;> simp at h
          | nil =>
            cases v with
            | int k' n =>
              simp only at h
              split at h
              · rename_i hh
                obtain ⟨rfl, hwf⟩ := hh
                exact ⟨[.i k' n], .cons (.i k' n) .nil, by simp only [Tyc, hu]; exact ⟨n, rfl, hwf⟩, fun y hy => by simp at hy; subst hy; rfl⟩
              · cases h
            | _ => simp at h
      case string =>
        cases cs with
        | nil => simp at h
        | cons v r =>
          cases r with
          | cons _ _ => cases v <;> simp at h
          | nil =>
            cases v with
            | string s =>
              simp only at h
              split at h
              · rename_i hh
                exact ⟨[.s s], .cons (.s s) .nil, by simp only [Tyc, hu]; exact ⟨s, rfl, hh⟩, fun y hy => by simp at hy; subst hy; rfl⟩
              · cases h
            | _ => simp at h
      case slice e =>
        have hc := rowsOk_at hR hlt
        simp only [rowAt, hu, Bool.and_eq_true, Bool.or_eq_true, beq_iff_eq, decide_eq_true_eq] at hc
        obtain ⟨⟨hpos, hagg⟩, hety⟩ := hc
        cases cs with
        | nil => simp at h
        | cons v r =>
          cases r with
          | cons _ _ => cases v <;> simp at h
          | nil =>
            have nilcase : ∀ (a : Option Addr) (c : Nat), ∃ ys, LArg β ok w [.slice a 0 c] ys ∧ Tyc P (fuel + 1) t ys ∧ ∀ y ∈ ys, y.cells = [y] := by
              intro a c
              refine ⟨[.sl none []], .cons (.sl0 none a c) .nil, ?_, fun y hy => by simp at hy; subst hy; rfl⟩
              simp only [Tyc, hu]
              exact ⟨[], rfl, by simp, fun z hz => by cases hz⟩
            cases v with
            | slice a len cap =>
              cases a with
              | none =>
                cases len with
                | zero => exact nilcase none cap
                | succ n => simp at h
              | some a =>
                simp only at h
                split at h
                · rename_i hh
                  obtain ⟨hb, hlc, hcm⟩ := hh
                  simp only [Option.bind_eq_some_iff] at h
                  obtain ⟨elems, hel, _⟩ := h
                  obtain ⟨he1, he2⟩ := mapM_some hel
                  by_cases hl0 : len = 0
                  · subst hl0; exact nilcase (some a) cap
                  have hrow : ∀ i, i < len → ∃ z : List AV, ∃ row, w.cells? base (a.add (i * P.cellsOf e)) (P.cellsOf e) = some row ∧ LArg β ok w row z ∧ Tyc P fuel e z ∧ ∀ y ∈ z, y.cells = [y] := by
                    intro i hi
                    obtain ⟨x, hx⟩ := he2 i (List.mem_range.2 hi)
                    obtain ⟨row, h1, h2⟩ := Option.bind_eq_some_iff.1 hx
                    obtain ⟨z, z1, z2, z3⟩ := ih e row x.1 x.2 hety h2
                    exact ⟨z, row, h1, z1, z2, z3⟩
                  obtain ⟨es, hes, hesr⟩ := choose_list len hrow
                  have hspot : a = ⟨a.block, a.off, none⟩ := by
                    obtain ⟨z, row, h1, _⟩ := hrow 0 (by omega)
                    obtain ⟨g1, g2⟩ := cells?_at h1
                    have := g2 0 hpos
                    rw [List.getElem?_eq_getElem (by omega)] at this
                    simp only [Nat.zero_mul, Addr.add, if_pos] at this
                    unfold World.cell? at this
                    split at this
                    · split at this
                      · cases this
                      · rename_i hn
                        cases a with
                        | mk b o sp => cases sp <;> simp_all
                    · cases this
                  have hcell : ∀ i j, i < len → j < P.cellsOf e → ∀ row, w.cells? base (a.add (i * P.cellsOf e)) (P.cellsOf e) = some row → w.cell? ⟨a.block, a.off + i * P.cellsOf e + j, none⟩ = row[j]? := by
                    intro i j hi hj row hr
                    obtain ⟨g1, g2⟩ := cells?_at hr
                    rw [← g2 j hj]
                    congr 1
                    rw [hspot]
                    simp only [Addr.add]
                    by_cases h1 : i * P.cellsOf e = 0 <;> by_cases h2 : j = 0 <;> simp [h1, h2]
                  have hblk : a.block < w.heap.size := by
                    obtain ⟨z, row, h1, _⟩ := hrow 0 (by omega)
                    obtain ⟨g1, _⟩ := cells?_at h1
                    have := hcell 0 0 (by omega) hpos row h1
                    rw [List.getElem?_eq_getElem (by omega)] at this
                    unfold World.cell? at this
                    simp only at this
                    split at this
                    · rename_i hh
                      exact (Array.getElem?_eq_some_iff.1 hh).1
                    · cases this
                  have hcellsE : ∀ z ∈ es, (mkE P e z).cells = z ∧ z.length = P.cellsOf e := by
                    intro z hz
                    obtain ⟨i, hi⟩ := List.mem_iff_getElem?.1 hz
                    obtain ⟨row, h1, z1, z2, z3⟩ := hesr i z hi
                    have hlen : z.length = P.cellsOf e := by rw [← z1.len, (cells?_at h1).1]
                    refine ⟨?_, hlen⟩
                    unfold mkE
                    by_cases ha : aggT P e = true
                    · rw [if_pos ha]; rfl
                    · rw [if_neg ha]
                      have h1' : P.cellsOf e = 1 := by rcases hagg with h | h; exact absurd h ha; exact h
                      obtain ⟨y, rfl⟩ := List.length_eq_one_iff.1 (hlen.trans h1')
                      exact z3 y (by simp)
                  have hval : Value.slice (some a) len cap = .slice (some ⟨a.block, a.off, none⟩) (es.map (mkE P e)).length cap := by
                    rw [← hspot]; simp [hes]
                  refine ⟨[.sl none (es.map (mkE P e))], .cons ?_ .nil, ?_, fun y hy => by simp at hy; subst hy; rfl⟩
                  · rw [hval]
                    refine .sl a.block a.off cap (P.cellsOf e) none (es.map (mkE P e)) (fun i j => (w.cell? ⟨a.block, a.off + i * P.cellsOf e + j, none⟩).getD undef) (by simp [hes]; exact hlc) (hok _ hblk) hblk (fun k hk => by cases hk) ?_ ?_ ?_
                    · intro i x hx
                      simp only [List.getElem?_map, Option.map_eq_some_iff] at hx
                      obtain ⟨z, hz, rfl⟩ := hx
                      obtain ⟨c1, c2⟩ := hcellsE z (List.mem_of_getElem? hz)
                      rw [c1, c2]
                    · intro i x j hx hj
                      simp only [List.getElem?_map, Option.map_eq_some_iff] at hx
                      obtain ⟨z, hz, rfl⟩ := hx
                      obtain ⟨row, h1, z1, _⟩ := hesr i z hz
                      have hi : i < len := by rw [← hes]; exact (List.getElem?_eq_some_iff.1 hz).1
                      rw [hcell i j hi hj row h1, List.getElem?_eq_getElem (by rw [(cells?_at h1).1]; exact hj)]
                      rfl
                    · intro i x j y hx hy
                      simp only [List.getElem?_map, Option.map_eq_some_iff] at hx
                      obtain ⟨z, hz, rfl⟩ := hx
                      obtain ⟨row, h1, z1, _⟩ := hesr i z hz
                      have hi : i < len := by rw [← hes]; exact (List.getElem?_eq_some_iff.1 hz).1
                      obtain ⟨c1, c2⟩ := hcellsE z (List.mem_of_getElem? hz)
                      rw [c1] at hy
                      have hj : j < P.cellsOf e := by rw [← c2]; exact (List.getElem?_eq_some_iff.1 hy).1
                      rw [hcell i j hi hj row h1, List.getElem?_eq_getElem (by rw [(cells?_at h1).1]; exact hj)]
                      exact z1.at (List.getElem?_eq_getElem _) hy
                  · simp only [Tyc, hu]
                    refine ⟨es, rfl, by omega, fun z hz => ?_⟩
                    obtain ⟨i, hi⟩ := List.mem_iff_getElem?.1 hz
                    obtain ⟨_, _, _, h3, _⟩ := hesr i z hi
                    exact h3
                · cases h
            | _ => simp at h
      case struct fs =>
        have hc := rowsOk_at hR hlt
        simp only [rowAt, hu, Bool.and_eq_true, beq_iff_eq, List.all_eq_true, decide_eq_true_eq] at hc
        obtain ⟨hc, hty⟩ := hc
        simp only at h
        split at h
        · rename_i hl
          obtain ⟨xs, hx, _⟩ := Option.map_eq_some_iff.1 h
          obtain ⟨_, hx2⟩ := mapM_some hx
          obtain ⟨ys, l1, l2, l3⟩ := fields_rep (β := β) (ok := ok) ih cs fs.toList 0 _ hc hl.symm (by omega) hty hx2
          refine ⟨ys, by simpa using l1, ?_, l3⟩
          simp only [Tyc, hu]
          refine ⟨?_, fun g hg => ?_⟩
          · have := l1.len; simp at this; omega
          · have := (l2 g hg).2; simpa using this
        · cases h
end

end Go.Am
/-! The law's call in the world of a row; the types of the data. -/
namespace Go.Am
open Go.ChangeShapes Go.WideShapes Go.ChangeAt Go.RowKit
set_option linter.unusedVariables false

abbrev β0 : Bt := fun _ => none
abbrev ok0 : Nat → Prop := okB (fun _ => False) β0 noHeap

theorem ok0_all (w : World) : ∀ g, g < w.heap.size → ok0 g := fun g _ => ⟨fun h => h, fun t es p h => by cases h⟩

theorem vw_b {H : Heap} {S : Nat → Prop} {T : Nat → Nat → Prop} {U : Prop} {x : AV} {b : Bool} (h : Vw H S T U x (.b b)) : x = .b b := by cases h; rfl

theorem law_calls {P : Program} {f : Nat} {args : List AV} (h : SC P f args (.b true)) {W : World} {cargs : Array Value} (hr : LRep β0 ok0 W cargs args) :
    Calls P f cargs W fun e W' => e = .returned (.bool true) ∧ Below W.heap.size W W' := by
  have hs : HSim (fun _ => False) β0 W noHeap 0 := ⟨(fun t p h => by cases h), (fun t t' p p' h => by cases h), (fun t p h => by cases h), (fun t es h => by cases h), (fun g h => h.elim)⟩
  refine Calls.mono (h.2 _ _ W cargs hs hr) ?_
  rintro e W' ⟨cv, v, β', H', n', rfl, ⟨ρ, _, hv⟩, hs', hrep, hcx⟩
  have hb := vw_b (hv 0)
  subst hb
  refine ⟨by rw [hrep.b_inv], hcx.os, hcx.tape, hcx.output, hcx.size, fun k hk => hcx.old k hk ?_⟩
  rintro ⟨t, es, p, h, _⟩
  cases h

section
variable {P : Program}

theorem tyc_bool {f : Nat} {t : TypeId} {ys : List AV} (hu : P.underlying t = some .bool) (h : Tyc P f t ys) : ∃ b, ys = [.b b] := by
  cases f with
  | zero => exact h.elim
  | succ f => simp only [Tyc, hu] at h; exact h

theorem tyc_int {f : Nat} {t : TypeId} {ys : List AV} {k : IntKind} (hu : P.underlying t = some (.int k)) (h : Tyc P f t ys) : ∃ n, ys = [.i k n] ∧ (Lit.int k n).wf = true := by
  cases f with
  | zero => exact h.elim
  | succ f => simp only [Tyc, hu] at h; exact h

theorem tyc_slice {f : Nat} {t e : TypeId} {ys : List AV} (hu : P.underlying t = some (.slice e)) (h : Tyc P f t ys) : ∃ (f' : Nat) (es : List (List AV)), ys = [.sl none (es.map (mkE P e))] ∧ es.length ≤ maxLen ∧ ∀ z ∈ es, Tyc P f' e z := by
  cases f with
  | zero => exact h.elim
  | succ f => simp only [Tyc, hu] at h; exact ⟨f, h⟩

theorem tyc_struct {f : Nat} {t : TypeId} {fs : Array Field} {ys : List AV} (hu : P.underlying t = some (.struct fs)) (h : Tyc P f t ys) : ys.length = P.cellsOf t ∧ ∃ f', ∀ g ∈ fs.toList, Tyc P f' g.type ((ys.drop g.offset).take (P.cellsOf g.type)) := by
  cases f with
  | zero => exact h.elim
  | succ f => simp only [Tyc, hu] at h; exact ⟨h.1, f, h.2⟩

/-- A list of values of one type, each of which stands for something. -/
theorem list_of {α : Type} {Q : α → Prop} {mk : α → AV} {P : Program} {e : TypeId} : ∀ (es : List (List AV)), (∀ z ∈ es, ∃ a, mkE P e z = mk a ∧ Q a) → ∃ l : List α, es.map (mkE P e) = l.map mk ∧ l.length = es.length ∧ ∀ a ∈ l, Q a
  | [], _ => ⟨[], rfl, rfl, fun a h => by cases h⟩
  | z :: r, h => by
    obtain ⟨a, h1, h2⟩ := h z (by simp)
    obtain ⟨l, g1, g2, g3⟩ := list_of r (fun y hy => h y (by simp [hy]))
    refine ⟨a :: l, by simp [h1, g1], by simp [g2], fun b hb => ?_⟩
    rcases List.mem_cons.1 hb with rfl | hb
    · exact h2
    · exact g3 b hb

theorem tyc_ints {f : Nat} {t e : TypeId} {ys : List AV} (hu : P.underlying t = some (.slice e)) (he : P.underlying e = some (.int .i64)) (h : Tyc P f t ys) : ∃ xs, ys = [ints xs] ∧ xs.length < 9223372036854775808 := by
  obtain ⟨f', es, rfl, hl, hz⟩ := tyc_slice hu h
  obtain ⟨l, h1, h2, _⟩ := list_of (P := P) (e := e) (mk := AV.i .i64) (Q := fun _ => True) es (fun z hz' => by
    obtain ⟨n, rfl, _⟩ := tyc_int he (hz z hz')
    exact ⟨n, by simp [mkE, aggT, he], trivial⟩)
  refine ⟨l, by rw [h1]; rfl, ?_⟩
  simp only [maxLen] at hl
  omega

/-- The types of the program's data. -/
structure Types (P : Program) (tB tI tIs tBig tR : TypeId) : Prop where
  b : P.underlying tB = some .bool
  i : P.underlying tI = some (.int .i64)
  is : P.underlying tIs = some (.slice tI)
  big : ∃ fs, P.underlying tBig = some (.struct fs) ∧ ∃ g1 g2, fs.toList = [g1, g2] ∧ g1.type = tB ∧ g1.offset = 0 ∧ g2.type = tIs ∧ g2.offset = 1
  r : ∃ fs, P.underlying tR = some (.struct fs) ∧ ∃ g1 g2, fs.toList = [g1, g2] ∧ g1.type = tBig ∧ g1.offset = 0 ∧ g2.type = tIs ∧ g2.offset = 2
  cB : P.cellsOf tB = 1
  cIs : P.cellsOf tIs = 1
  cBig : P.cellsOf tBig = 2
  cR : P.cellsOf tR = 3

theorem Types.tyc_r {tB tI tIs tBig tR : TypeId} (T : Types P tB tI tIs tBig tR) {f : Nat} {ys : List AV} (h : Tyc P f tR ys) : ∃ r : R, ys = [.b r.neg, ints r.num, ints r.den] ∧ r.ok := by
  obtain ⟨fs, hu, g1, g2, hfs, a1, a2, a3, a4⟩ := T.r
  obtain ⟨hl, f', hf⟩ := tyc_struct hu h
  rw [T.cR] at hl
  have k1 := hf g1 (by rw [hfs]; simp)
  have k2 := hf g2 (by rw [hfs]; simp)
  rw [a1, a2, T.cBig] at k1
  rw [a3, a4, T.cIs] at k2
  match ys, hl with
  | [x, y, z], _ =>
    simp only [List.drop_zero, List.take_succ_cons, List.take_zero, List.drop_succ_cons, List.take_nil] at k1 k2
    obtain ⟨fs', hu', h1, h2, hfs', b1, b2, b3, b4⟩ := T.big
    obtain ⟨_, f2, hf2⟩ := tyc_struct hu' k1
    have m1 := hf2 h1 (by rw [hfs']; simp)
    have m2 := hf2 h2 (by rw [hfs']; simp)
    rw [b1, b2, T.cB] at m1
    rw [b3, b4, T.cIs] at m2
    simp only [List.drop_zero, List.take_succ_cons, List.take_zero, List.drop_succ_cons, List.take_nil] at m1 m2
    obtain ⟨b, hb⟩ := tyc_bool T.b m1
    obtain ⟨xs, hx, lx⟩ := tyc_ints T.is T.i m2
    obtain ⟨zs, hz, lz⟩ := tyc_ints T.is T.i k2
    cases hb; cases hx; cases hz
    exact ⟨⟨b, xs, zs⟩, rfl, lx, lz⟩

theorem Types.tyc_rs {tB tI tIs tBig tR tRs : TypeId} (T : Types P tB tI tIs tBig tR) (hu : P.underlying tRs = some (.slice tR)) {f : Nat} {ys : List AV} (h : Tyc P f tRs ys) : ∃ rs : List R, ys = [rats rs] ∧ Rs.ok rs := by
  obtain ⟨f', es, rfl, hl, hz⟩ := tyc_slice hu h
  obtain ⟨l, h1, h2, h3⟩ := list_of (P := P) (e := tR) (mk := R.av) (Q := R.ok) es (fun z hz' => by
    obtain ⟨r, rfl, hr⟩ := T.tyc_r (hz z hz')
    obtain ⟨fs, hu, _⟩ := T.r
    exact ⟨r, by simp [mkE, aggT, hu]; rfl, hr⟩)
  refine ⟨l, by rw [h1]; rfl, ?_, h3⟩
  simp only [maxLen] at hl
  omega
end

/-- One argument that is a struct. -/
theorem arg_struct {H : Type} {enc : TypeId × Value → H} {P : Program} (hR : rowsOk P = true) {w : World} {t : TypeId} {fs : Array Field} (hu : P.underlying t = some (.struct fs)) (hlt : t < P.types.size) {v : Value} {d : DataW H} {ps : List MemPlace}
    (hok : ∃ cs, v = .agg cs) (h : DataW.Trod enc P w 0 (fun _ => true) true t v d ps) : ∃ f ys, Rep β0 ok0 w v (.agg ys) ∧ Tyc P f t ys := by
  obtain ⟨cs, rfl⟩ := hok
  obtain ⟨f, hf⟩ := h
  obtain ⟨ys, h1, h2, _⟩ := trod_rep (β := β0) (ok := ok0) (w := w) hR (ok0_all w) f t _ d ps hlt hf
  refine ⟨f, ys, .agg cs ys ?_ fun j y hy => ?_, h2⟩
  · have := h1.len; simpa [Value.cells] using this
  · have hj : j < cs.size := by
      have := h1.len
      have h2 := (List.getElem?_eq_some_iff.1 hy).1
      simp [Value.cells] at this; omega
    rw [Array.getElem?_eq_getElem hj]
    exact h1.at (by simp [Value.cells, hj]) hy

end Go.Am
/-! Natural numbers as lists of limbs, the least first. -/
namespace Go.Am
set_option linter.unusedVariables false

/-- The value of a list of limbs. -/
def val : List Int → Int
  | [] => 0
  | d :: r => d + 1000000000 * val r

/-- The limbs' weights. -/
def pw : Nat → Int
  | 0 => 1
  | k + 1 => 1000000000 * pw k

def Dig (xs : List Int) : Prop := ∀ d ∈ xs, 0 ≤ d ∧ d < 1000000000

theorem pw_pos : ∀ k, 0 < pw k
  | 0 => by decide
  | k + 1 => by have := pw_pos k; simp only [pw]; omega
theorem pw_add (i : Nat) : ∀ k, pw (i + k) = pw i * pw k
  | 0 => by simp [pw]
  | k + 1 => by rw [Nat.add_succ]; simp only [pw]; rw [pw_add i k]; grind
theorem pw_le {i k : Nat} (h : i ≤ k) : pw i ≤ pw k := by
  obtain ⟨j, rfl⟩ := Nat.exists_eq_add_of_le h
  rw [pw_add]
  have h1 := pw_pos i
  have h2 := pw_pos j
  have := Int.mul_le_mul_of_nonneg_left (show (1 : Int) ≤ pw j by omega) (Int.le_of_lt h1)
  omega
theorem pw_succ (k : Nat) : pw (k + 1) = 1000000000 * pw k := rfl

theorem val_append : ∀ (xs ys : List Int), val (xs ++ ys) = val xs + pw xs.length * val ys
  | [], ys => by simp [val, pw]
  | d :: r, ys => by simp only [List.cons_append, val, List.length_cons, pw]; rw [val_append r ys]; grind

theorem val_snoc (xs : List Int) (d : Int) : val (xs ++ [d]) = val xs + pw xs.length * d := by rw [val_append]; simp [val]

theorem val_take {xs : List Int} {i : Nat} {a : Int} (h : xs[i]? = some a) : val (xs.take (i + 1)) = val (xs.take i) + pw i * a := by
  have hi : i < xs.length := (List.getElem?_eq_some_iff.1 h).1
  rw [List.take_add_one, h]
  simp only [Option.toList_some]
  rw [val_snoc, List.length_take, Nat.min_eq_left (by omega)]

theorem val_split (xs : List Int) (i : Nat) (h : i ≤ xs.length) : val xs = val (xs.take i) + pw i * val (xs.drop i) := by
  conv => lhs; rw [← List.take_append_drop i xs]
  rw [val_append, List.length_take, Nat.min_eq_left h]

theorem val_drop {xs : List Int} {i : Nat} {a : Int} (h : xs[i]? = some a) : val (xs.drop i) = a + 1000000000 * val (xs.drop (i + 1)) := by
  have hi : i < xs.length := (List.getElem?_eq_some_iff.1 h).1
  have ha : xs[i] = a := by rw [List.getElem?_eq_getElem hi] at h; exact Option.some.inj h
  rw [List.drop_eq_getElem_cons hi, ha]; rfl

theorem Dig.nil : Dig [] := fun d h => by cases h
theorem Dig.cons {d : Int} {r : List Int} : Dig (d :: r) ↔ (0 ≤ d ∧ d < 1000000000) ∧ Dig r := by simp [Dig]
theorem Dig.append {xs ys : List Int} : Dig (xs ++ ys) ↔ Dig xs ∧ Dig ys := by
  simp only [Dig, List.mem_append]
  exact ⟨fun h => ⟨fun d hd => h d (.inl hd), fun d hd => h d (.inr hd)⟩, fun h d hd => hd.elim (h.1 d) (h.2 d)⟩
theorem Dig.snoc {xs : List Int} {d : Int} (h : Dig xs) (h1 : 0 ≤ d) (h2 : d < 1000000000) : Dig (xs ++ [d]) := Dig.append.2 ⟨h, Dig.cons.2 ⟨⟨h1, h2⟩, Dig.nil⟩⟩
theorem Dig.take {xs : List Int} (h : Dig xs) (i : Nat) : Dig (xs.take i) := fun d hd => h d (List.mem_of_mem_take hd)
theorem Dig.drop {xs : List Int} (h : Dig xs) (i : Nat) : Dig (xs.drop i) := fun d hd => h d (List.mem_of_mem_drop hd)
theorem Dig.at {xs : List Int} (h : Dig xs) {i : Nat} {a : Int} (ha : xs[i]? = some a) : 0 ≤ a ∧ a < 1000000000 := h a (List.mem_of_getElem? ha)
theorem Dig.set {xs : List Int} (h : Dig xs) {i : Nat} {a : Int} (h1 : 0 ≤ a) (h2 : a < 1000000000) : Dig (xs.set i a) := by
  intro d hd
  rcases List.mem_or_eq_of_mem_set hd with h3 | h3
  · exact h d h3
  · subst h3; exact ⟨h1, h2⟩
theorem Dig.replicate (n : Nat) : Dig (List.replicate n 0) := fun d hd => by rw [List.eq_of_mem_replicate hd]; decide
theorem val_replicate : ∀ n, val (List.replicate n 0) = 0
  | 0 => rfl
  | n + 1 => by simp only [List.replicate_succ, val, val_replicate n]; omega

theorem Dig.nonneg : ∀ {xs : List Int}, Dig xs → 0 ≤ val xs
  | [], _ => by simp [val]
  | d :: r, h => by
    have h1 := Dig.cons.1 h
    have := Dig.nonneg h1.2
    simp only [val]; omega
theorem Dig.lt : ∀ {xs : List Int}, Dig xs → val xs < pw xs.length
  | [], _ => by simp [val, pw]
  | d :: r, h => by
    have h1 := Dig.cons.1 h
    have := Dig.lt h1.2
    simp only [val, pw, List.length_cons]; omega

theorem val_set {xs : List Int} {i : Nat} {a b : Int} (h : xs[i]? = some a) : val (xs.set i b) = val xs + pw i * (b - a) := by
  induction xs generalizing i with
  | nil => simp at h
  | cons d r ih =>
    cases i with
    | zero => simp at h; subst h; simp [val, pw]; omega
    | succ i =>
      have := ih (by simpa using h)
      simp only [List.set_cons_succ, val, this, pw]; grind

/-- A list with a small value has zeros at its end. -/
theorem Dig.zero_at : ∀ {xs : List Int}, Dig xs → ∀ {j : Nat}, val xs < pw j → ∀ {i : Nat} {a : Int}, j ≤ i → xs[i]? = some a → a = 0
  | [], _, _, _, _, _, _, ha => by simp at ha
  | d :: r, h, j, hv, i, a, hj, ha => by
    have h1 := Dig.cons.1 h
    have hn := h1.2.nonneg
    cases i with
    | zero =>
      have : j = 0 := by omega
      subst this
      simp at ha; subst ha
      simp only [val, pw] at hv
      omega
    | succ i =>
      cases j with
      | zero =>
        simp only [val, pw] at hv
        have hr : val r < pw 0 := by simp only [pw]; omega
        exact Dig.zero_at h1.2 (j := 0) hr (Nat.zero_le _) (by simpa using ha)
      | succ j =>
        simp only [val, pw] at hv
        have hr : val r < pw j := by omega
        exact Dig.zero_at h1.2 (j := j) hr (i := i) (by omega) (by simpa using ha)

/-- The limbs of a number. -/
def limbs (n : Nat) : List Int := if h : n = 0 then [] else ((n % 1000000000 : Nat) : Int) :: limbs (n / 1000000000)
termination_by n
decreasing_by omega

theorem limbs_zero : limbs 0 = [] := by rw [limbs]; simp
theorem limbs_pos {n : Nat} (h : n ≠ 0) : limbs n = ((n % 1000000000 : Nat) : Int) :: limbs (n / 1000000000) := by rw [limbs]; simp [h]
theorem limbs_nil {n : Nat} : limbs n = [] ↔ n = 0 := by
  constructor
  · intro h
    by_cases e : n = 0
    · exact e
    · rw [limbs_pos e] at h; cases h
  · rintro rfl; exact limbs_zero

theorem limbs_dig (n : Nat) : Dig (limbs n) := by
  induction n using Nat.strongRecOn with
  | _ n ih =>
    by_cases h : n = 0
    · subst h; rw [limbs_zero]; exact Dig.nil
    · rw [limbs_pos h]; exact Dig.cons.2 ⟨⟨by omega, by omega⟩, ih _ (by omega)⟩
theorem val_limbs (n : Nat) : val (limbs n) = n := by
  induction n using Nat.strongRecOn with
  | _ n ih =>
    by_cases h : n = 0
    · subst h; rw [limbs_zero]; rfl
    · rw [limbs_pos h]; simp only [val]; rw [ih _ (by omega)]; omega

theorem limbs_inj {m n : Nat} (h : limbs m = limbs n) : m = n := by
  have := congrArg val h
  rw [val_limbs, val_limbs] at this
  omega

/-- No zero limb at the end. -/
def Top (xs : List Int) : Prop := ∀ a, xs[xs.length - 1]? = some a → a ≠ 0

theorem Top.tail {d : Int} {r : List Int} (h : Top (d :: r)) : Top r := by
  intro a ha
  refine h a ?_
  have hr : 0 < r.length := by
    rcases Nat.eq_zero_or_pos r.length with h0 | h0
    · have : r = [] := List.length_eq_zero_iff.1 h0
      subst this; simp at ha
    · exact h0
  simp only [List.length_cons, Nat.add_sub_cancel]
  rw [show r.length = (r.length - 1) + 1 by omega, List.getElem?_cons_succ]
  exact ha

theorem limbs_top (n : Nat) : Top (limbs n) := by
  induction n using Nat.strongRecOn with
  | _ n ih =>
    by_cases h : n = 0
    · subst h; rw [limbs_zero]; intro a ha; simp at ha
    · rw [limbs_pos h]
      intro a ha
      by_cases h1 : n / 1000000000 = 0
      · rw [h1, limbs_zero] at ha
        simp at ha; subst ha; omega
      · have hr : 0 < (limbs (n / 1000000000)).length := by
          rcases Nat.eq_zero_or_pos (limbs (n / 1000000000)).length with h0 | h0
          · exact absurd (limbs_nil.1 (List.length_eq_zero_iff.1 h0)) h1
          · exact h0
        simp only [List.length_cons, Nat.add_sub_cancel] at ha
        rw [show (limbs (n / 1000000000)).length = ((limbs (n / 1000000000)).length - 1) + 1 by omega, List.getElem?_cons_succ] at ha
        exact ih _ (by omega) a ha

theorem uniq : ∀ {xs : List Int}, Dig xs → Top xs → xs = limbs (val xs).toNat
  | [], _, _ => by simp [val, limbs_zero]
  | d :: r, h, ht => by
    have h1 := Dig.cons.1 h
    have hn := h1.2.nonneg
    have ih := uniq h1.2 ht.tail
    have hv : val (d :: r) = d + 1000000000 * val r := rfl
    have hne : (val (d :: r)).toNat ≠ 0 := by
      intro h0
      have hz : val r = 0 := by omega
      rw [hz] at ih
      simp only [Int.toNat_zero, limbs_zero] at ih
      subst ih
      have := ht d (by simp)
      simp only [val] at h0
      omega
    rw [limbs_pos hne]
    have e1 : (((val (d :: r)).toNat % 1000000000 : Nat) : Int) = d := by omega
    have e2 : (val (d :: r)).toNat / 1000000000 = (val r).toNat := by omega
    rw [e1, e2, ← ih]

theorem uniq' {xs : List Int} {n : Nat} (h : Dig xs) (ht : Top xs) (hv : val xs = n) : xs = limbs n := by
  rw [uniq h ht, hv]; simp

theorem top_of_ge {xs : List Int} (h : Dig xs) (hv : xs ≠ [] → pw (xs.length - 1) ≤ val xs) : Top xs := by
  intro a ha h0
  have hl : xs.length - 1 < xs.length := (List.getElem?_eq_some_iff.1 ha).1
  have hne : xs ≠ [] := by intro e; subst e; simp at hl
  have hs := val_split xs (xs.length - 1) (by omega)
  have hd := val_drop ha
  rw [show xs.length - 1 + 1 = xs.length by omega, List.drop_length, h0] at hd
  rw [hd] at hs
  have hlt := (h.take (xs.length - 1)).lt
  rw [List.length_take, Nat.min_eq_left (by omega)] at hlt
  have := hv hne
  simp [val] at hs
  omega

theorem ge_of_top {xs : List Int} (h : Dig xs) (ht : Top xs) (hne : xs ≠ []) : pw (xs.length - 1) ≤ val xs := by
  have hl : xs.length - 1 < xs.length := by
    have : 0 < xs.length := List.length_pos_iff.2 hne
    omega
  have ha := List.getElem?_eq_getElem hl
  have h0 := ht _ ha
  have hb := h.at ha
  have hs := val_split xs (xs.length - 1) (by omega)
  rw [val_drop ha, show xs.length - 1 + 1 = xs.length by omega, List.drop_length] at hs
  have hn := (h.take (xs.length - 1)).nonneg
  simp only [val, Int.mul_zero, Int.add_zero] at hs
  have hp := pw_pos (xs.length - 1)
  have := Int.mul_le_mul_of_nonneg_left (show (1 : Int) ≤ xs[xs.length - 1] by omega) (Int.le_of_lt hp)
  omega

theorem limbs_len_lt {n k : Nat} : (limbs n).length ≤ k ↔ (n : Int) < pw k := by
  constructor
  · intro h
    have := (limbs_dig n).lt
    rw [val_limbs] at this
    exact Int.lt_of_lt_of_le this (pw_le h)
  · intro h
    rcases Nat.lt_or_ge k (limbs n).length with hk | hk
    · have hne : limbs n ≠ [] := by intro e; rw [e] at hk; simp at hk
      have := ge_of_top (limbs_dig n) (limbs_top n) hne
      rw [val_limbs] at this
      have := pw_le (show k ≤ (limbs n).length - 1 by omega)
      omega
    · exact hk

theorem limbs_len_mono {m n : Nat} (h : m ≤ n) : (limbs m).length ≤ (limbs n).length := by
  rw [limbs_len_lt]
  have := (limbs_len_lt (n := n)).1 (Nat.le_refl _)
  omega

theorem limbs_small {n : Nat} (h : n ≠ 0) (h1 : n < 1000000000) : limbs n = [(n : Int)] := by
  rw [limbs_pos h, show n / 1000000000 = 0 by omega, limbs_zero, Nat.mod_eq_of_lt h1]

/-- Zeros at the end may go. -/
theorem trim_val {xs : List Int} (h : Dig xs) {n k : Nat} (hv : val xs = n) (hk : k ≤ xs.length) (hz : ∀ (i : Nat) (a : Int), k ≤ i → xs[i]? = some a → a = 0) (ht : k = 0 ∨ ∃ a, xs[k - 1]? = some a ∧ a ≠ 0) : xs.take k = limbs n := by
  have hd : val (xs.drop k) = 0 := by
    have : xs.drop k = List.replicate (xs.length - k) 0 := by
      refine List.ext_getElem? fun i => ?_
      rw [List.getElem?_drop, List.getElem?_replicate]
      split
      · rename_i hi
        have hlt : k + i < xs.length := by omega
        rw [List.getElem?_eq_getElem hlt]
        exact congrArg some (hz _ _ (by omega) (List.getElem?_eq_getElem hlt))
      · exact List.getElem?_eq_none (by omega)
    rw [this, val_replicate]
  refine uniq' (h.take k) ?_ ?_
  · intro a ha h0
    rw [List.length_take, Nat.min_eq_left hk, List.getElem?_take] at ha
    split at ha
    · rename_i hlt
      rcases ht with ht | ⟨b, hb, hb0⟩
      · omega
      · rw [hb] at ha; cases ha; exact hb0 h0
    · cases ha
  · have := val_split xs k hk
    rw [hd] at this
    omega

/-- The first place from the top at which two lists differ decides. -/
theorem cmp_lt {xs ys : List Int} (hx : Dig xs) (hy : Dig ys) (hl : xs.length = ys.length) {i : Nat} (hd : xs.drop (i + 1) = ys.drop (i + 1)) {a b : Int} (ha : xs[i]? = some a) (hb : ys[i]? = some b) (h : a < b) : val xs < val ys := by
  have hi : i < xs.length := (List.getElem?_eq_some_iff.1 ha).1
  rw [val_split xs i (by omega), val_split ys i (by omega), val_drop ha, val_drop hb, hd]
  have h1 := (hx.take i).lt
  rw [List.length_take, Nat.min_eq_left (by omega)] at h1
  have h2 := (hy.take i).nonneg
  have h3 := pw_pos i
  have h4 := Int.mul_le_mul_of_nonneg_left (show (1 : Int) ≤ b - a by omega) (Int.le_of_lt h3)
  grind

theorem len_lt {m n : Nat} (h : (limbs m).length < (limbs n).length) : m < n := by
  rcases Nat.lt_or_ge m n with h1 | h1
  · exact h1
  · have := limbs_len_mono h1; omega

end Go.Am
/-! Long division with an estimated digit. -/
namespace Go.Am
set_option linter.unusedVariables false

theorem mul_le' {a b c d : Int} (h1 : a ≤ b) (h2 : c ≤ d) (h3 : 0 ≤ c) (h4 : 0 ≤ b) : a * c ≤ b * d := Int.mul_le_mul h1 h2 h3 h4
theorem lt_of_mul {a b c : Int} (hc : 0 < c) (h : a * c < b * c) : a < b := Int.lt_of_mul_lt_mul_right h (Int.le_of_lt hc)

/-- The estimate: the leading digits of the dividend's part u and the divisor V. -/
structure Est (W u V ulow vlow top v2 two u2 qt : Int) : Prop where
  Wp : 0 < W
  u0 : 0 ≤ ulow
  u1 : ulow < W
  v0 : 0 ≤ vlow
  v1 : vlow < W
  t0 : 1000000000 ≤ 2 * top
  t1 : top < 1000000000
  v20 : 0 ≤ v2
  v21 : v2 < 1000000000
  u20 : 0 ≤ u2
  u21 : u2 < 1000000000
  two0 : 0 ≤ two
  hu : u = (two * 1000000000 + u2) * W + ulow
  hV : V = (top * 1000000000 + v2) * W + vlow
  huV : u < V * 1000000000
  q0 : 0 ≤ qt
  qt1 : qt * V ≤ u
  qt2 : u < (qt + 1) * V

section
variable {W u V ulow vlow top v2 two u2 qt : Int}

theorem Est.Vpos (h : Est W u V ulow vlow top v2 two u2 qt) : 0 < V := by
  have := Int.mul_pos (show 0 < top * 1000000000 + v2 by have := h.t0; have := h.v20; omega) h.Wp
  have := h.hV; have := h.v0; omega

theorem Est.qtlt (h : Est W u V ulow vlow top v2 two u2 qt) : qt < 1000000000 := by
  refine lt_of_mul h.Vpos ?_
  have := h.qt1; have := h.huV
  rw [Int.mul_comm 1000000000]; omega

theorem Est.first (h : Est W u V ulow vlow top v2 two u2 qt) : qt * top ≤ two ∧ two < (1000000000 + 2) * top := by
  obtain ⟨hW, u0, u1, v0, v1, t0, t1, v20, v21, u20, u21, two0, hu, hV, huV, q0, qt1, qt2⟩ := h
  have hBW : 0 < 1000000000 * W := by omega
  constructor
  · have h1 : qt * (top * (1000000000 * W)) ≤ qt * V := Int.mul_le_mul_of_nonneg_left (by
      have : top * (1000000000 * W) + v2 * W = (top * 1000000000 + v2) * W := by grind
      have h2 := Int.mul_nonneg v20 (Int.le_of_lt hW)
      omega) q0
    have h2 : u < (two + 1) * (1000000000 * W) := by
      have e : (two + 1) * (1000000000 * W) = (two * 1000000000 + u2) * W + (1000000000 - u2) * W := by grind
      have : 1 * W ≤ (1000000000 - u2) * W := Int.mul_le_mul_of_nonneg_right (by omega) (Int.le_of_lt hW)
      omega
    have h3 : (qt * top) * (1000000000 * W) < (two + 1) * (1000000000 * W) := by
      have e : (qt * top) * (1000000000 * W) = qt * (top * (1000000000 * W)) := by grind
      omega
    have := lt_of_mul hBW h3
    omega
  · have h2 : two * (1000000000 * W) ≤ u := by
      have e : two * (1000000000 * W) + u2 * W = (two * 1000000000 + u2) * W := by grind
      have := Int.mul_nonneg u20 (Int.le_of_lt hW)
      omega
    have h3 : V < (top + 1) * (1000000000 * W) := by
      have e : (top + 1) * (1000000000 * W) = (top * 1000000000 + v2) * W + (1000000000 - v2) * W := by grind
      have : 1 * W ≤ (1000000000 - v2) * W := Int.mul_le_mul_of_nonneg_right (by omega) (Int.le_of_lt hW)
      omega
    have h4 : two * (1000000000 * W) < ((top + 1) * 1000000000) * (1000000000 * W) := by
      have e : ((top + 1) * 1000000000) * (1000000000 * W) = ((top + 1) * (1000000000 * W)) * 1000000000 := by grind
      omega
    have := lt_of_mul hBW h4
    omega

theorem Est.down (h : Est W u V ulow vlow top v2 two u2 qt) {q r : Int} (hq : q * top + r = two) (hq0 : 0 ≤ q) (hc : 1000000000 ≤ q ∨ r * 1000000000 + u2 < q * v2) : qt ≤ q - 1 := by
  rcases hc with hc | hc
  · have := h.qtlt; omega
  · have hVp := h.Vpos
    obtain ⟨hW, u0, u1, v0, v1, t0, t1, v20, v21, u20, u21, two0, hu, hV, huV, q0, qt1, qt2⟩ := h
    have e1 : q * (top * 1000000000 + v2) = (two - r) * 1000000000 + q * v2 := by rw [← hq]; grind
    have h1 : two * 1000000000 + u2 + 1 ≤ q * (top * 1000000000 + v2) := by omega
    have h2 := Int.mul_le_mul_of_nonneg_right h1 (Int.le_of_lt hW)
    have e2 : (two * 1000000000 + u2 + 1) * W = (two * 1000000000 + u2) * W + W := by grind
    have e3 : q * V = q * (top * 1000000000 + v2) * W + q * vlow := by rw [hV]; grind
    have h3 := Int.mul_nonneg hq0 v0
    have h4 : qt * V < q * V := by omega
    have := lt_of_mul hVp h4
    omega

theorem Est.up (h : Est W u V ulow vlow top v2 two u2 qt) {q r : Int} (hq : q * top + r = two) (hq0 : 0 ≤ q) (hq1 : q ≤ 1000000000) (hc : q * v2 ≤ r * 1000000000 + u2) : q ≤ qt + 1 := by
  rcases Int.lt_or_le (qt + 1) q with hlt | hle
  · exfalso
    have hVp := h.Vpos
    obtain ⟨hW, u0, u1, v0, v1, t0, t1, v20, v21, u20, u21, two0, hu, hV, huV, q0, qt1, qt2⟩ := h
    have h1 : (qt + 1) * V ≤ (q - 1) * V := Int.mul_le_mul_of_nonneg_right (by omega) (Int.le_of_lt hVp)
    have e1 : q * (top * 1000000000 + v2) = (two - r) * 1000000000 + q * v2 := by rw [← hq]; grind
    have h2 : q * (top * 1000000000 + v2) ≤ two * 1000000000 + u2 := by omega
    have h3 : (q - 1) * vlow ≤ (q - 1) * W := Int.mul_le_mul_of_nonneg_left (Int.le_of_lt v1) (by omega)
    have e2 : (q - 1) * V = (q * (top * 1000000000 + v2) - (top * 1000000000 + v2)) * W + (q - 1) * vlow := by rw [hV]; grind
    have h4 : (q * (top * 1000000000 + v2) - (top * 1000000000 + v2)) * W ≤ (two * 1000000000 + u2 - (top * 1000000000 + v2)) * W := Int.mul_le_mul_of_nonneg_right (by omega) (Int.le_of_lt hW)
    have h5 : (q - 1) * W ≤ (top * 1000000000 + v2) * W := Int.mul_le_mul_of_nonneg_right (by omega) (Int.le_of_lt hW)
    have e3 : (two * 1000000000 + u2 - (top * 1000000000 + v2)) * W = (two * 1000000000 + u2) * W - (top * 1000000000 + v2) * W := by grind
    omega
  · exact hle
end

/-- The factor makes the leading digit great. -/
theorem norm_top {bt f : Int} (h1 : 1 ≤ bt) (h2 : bt < 1000000000) (hf : f = 1000000000 / (bt + 1)) : 1 ≤ f ∧ f * (bt + 1) ≤ 1000000000 ∧ 1000000000 ≤ 2 * (f * bt) := by
  have e := Int.ediv_mul_add_emod 1000000000 (bt + 1)
  have m0 := Int.emod_nonneg 1000000000 (show bt + 1 ≠ 0 by omega)
  have m1 := Int.emod_lt_of_pos 1000000000 (show 0 < bt + 1 by omega)
  rw [← hf] at e
  have hf1 : 1 ≤ f := by rw [hf, Int.le_ediv_iff_mul_le (by omega)]; omega
  have e2 : f * (bt + 1) = f * bt + f := by grind
  refine ⟨hf1, by omega, ?_⟩
  by_cases hb : bt = 1
  · subst hb; omega
  by_cases hff : f = 1
  · subst hff; omega
  have : 1 * 1 ≤ (f - 1) * (bt - 1) := Int.mul_le_mul (by omega) (by omega) (by omega) (by omega)
  have e3 : (f - 1) * (bt - 1) = f * bt - f - bt + 1 := by grind
  omega

/-- What the quotient and the remainder come to. -/
theorem div_fin {a b f x o : Nat} (hf : 0 < f) (hb : 0 < b) (h : a * f = x + o * (b * f)) (hx : x < b * f) : o = a / b ∧ x / f = a % b := by
  have e1 : x = (a - o * b) * f ∧ o * b ≤ a := by
    have h2 : o * b * f ≤ a * f := by rw [Nat.mul_assoc]; omega
    have h3 : o * b ≤ a := Nat.le_of_mul_le_mul_right h2 hf
    refine ⟨?_, h3⟩
    rw [Nat.sub_mul, Nat.mul_assoc]; omega
  obtain ⟨e1, e2⟩ := e1
  have h3 : a - o * b < b := by
    rw [e1] at hx
    exact Nat.lt_of_mul_lt_mul_right hx
  have ha : a = (a - o * b) + b * o := by rw [Nat.mul_comm b o]; omega
  constructor
  · conv => rhs; rw [ha]
    rw [Nat.add_mul_div_left _ _ hb, Nat.div_eq_of_lt h3, Nat.zero_add]
  · rw [e1, Nat.mul_div_cancel _ hf]
    conv => rhs; rw [ha]
    rw [Nat.add_mul_mod_self_left, Nat.mod_eq_of_lt h3]

end Go.Am
/-! One round of the long division, on lists of limbs. -/
namespace Go.Am
set_option linter.unusedVariables false

theorem tail_zero {xs : List Int} {j : Nat} (hd : Dig xs) (hv : val xs < pw j) : val (xs.drop j) = 0 := by
  by_cases hj : j ≤ xs.length
  · have h1 := val_split xs j hj
    have h2 := (hd.take j).nonneg
    have h3 := (hd.drop j).nonneg
    have hp := pw_pos j
    rcases Int.lt_or_le 0 (val (xs.drop j)) with h | h
    · have := Int.mul_le_mul_of_nonneg_left (show (1 : Int) ≤ val (xs.drop j) by omega) (Int.le_of_lt hp)
      omega
    · omega
  · rw [List.drop_of_length_le (by omega)]; rfl

theorem val_drop_add {xs : List Int} {k j : Nat} (h : k + j ≤ xs.length) : val (xs.drop k) = val ((xs.drop k).take j) + pw j * val (xs.drop (k + j)) := by
  rw [val_split (xs.drop k) j (by rw [List.length_drop]; omega), List.drop_drop]

theorem lead3 {xs : List Int} {k M : Nat} {d1 d2 d3 : Int} (hl : k + M + 2 < xs.length) (h1 : xs[k + M + 2]? = some d1) (h2 : xs[k + M + 1]? = some d2) (h3 : xs[k + M]? = some d3) (hz : val (xs.drop (k + M + 3)) = 0) :
    val (xs.drop k) = ((d1 * 1000000000 + d2) * 1000000000 + d3) * pw M + val ((xs.drop k).take M) := by
  rw [val_drop_add (j := M) (by omega), val_drop h3, val_drop h2, val_drop h1, hz]
  grind

theorem lead2 {ys : List Int} {M : Nat} {t v : Int} (hl : ys.length = M + 2) (h1 : ys[M + 1]? = some t) (h2 : ys[M]? = some v) : val ys = (t * 1000000000 + v) * pw M + val (ys.take M) := by
  have := val_split ys M (by omega)
  rw [val_drop h2, val_drop h1, List.drop_of_length_le (by omega)] at this
  simp only [val] at this
  rw [this]; grind

/-- The estimate's premises, from the lists. -/
theorem est_of {xs ys : List Int} {k M : Nat} {d1 d2 d3 t v : Int} (dx : Dig xs) (dy : Dig ys) (hly : ys.length = M + 2) (hl : k + M + 2 < xs.length) (h1 : xs[k + M + 2]? = some d1) (h2 : xs[k + M + 1]? = some d2) (h3 : xs[k + M]? = some d3)
    (ht : ys[M + 1]? = some t) (hv : ys[M]? = some v) (hn : 1000000000 ≤ 2 * t) (hx : val xs < val ys * pw (k + 1)) :
    Est (pw M) (val (xs.drop k)) (val ys) (val ((xs.drop k).take M)) (val (ys.take M)) t v (d1 * 1000000000 + d2) d3 (val (xs.drop k) / val ys) ∧ val (xs.drop (k + M + 3)) = 0 := by
  have b1 := dx.at h1
  have b2 := dx.at h2
  have b3 := dx.at h3
  have bt := dy.at ht
  have bv := dy.at hv
  have hyl := dy.lt
  rw [hly] at hyl
  have hpk := pw_pos (k + 1)
  have hz : val (xs.drop (k + M + 3)) = 0 := by
    refine tail_zero dx ?_
    have e : pw (k + M + 3) = pw (M + 2) * pw (k + 1) := by rw [← pw_add]; congr 1; omega
    have := Int.mul_le_mul_of_nonneg_right (Int.le_of_lt hyl) (Int.le_of_lt hpk)
    omega
  have hu := lead3 hl h1 h2 h3 hz
  have hV := lead2 hly ht hv
  have hW := pw_pos M
  have l1 := ((dx.drop k).take M).nonneg
  have l2 := ((dx.drop k).take M).lt
  rw [List.length_take, List.length_drop, Nat.min_eq_left (by omega)] at l2
  have l3 := (dy.take M).nonneg
  have l4 := (dy.take M).lt
  rw [List.length_take, Nat.min_eq_left (by omega)] at l4
  have hu0 := (dx.drop k).nonneg
  have hVp : 0 < val ys := by
    have := Int.mul_pos (show 0 < t * 1000000000 + v by omega) hW
    omega
  have huV : val (xs.drop k) < val ys * 1000000000 := by
    have hs := val_split xs k (by omega)
    have := (dx.take k).nonneg
    have hpk0 := pw_pos k
    refine lt_of_mul hpk0 ?_
    have e : val ys * 1000000000 * pw k = val ys * pw (k + 1) := by rw [pw_succ]; grind
    have e2 : val (xs.drop k) * pw k = pw k * val (xs.drop k) := Int.mul_comm _ _
    omega
  have hm := Int.ediv_mul_add_emod (val (xs.drop k)) (val ys)
  have m0 := Int.emod_nonneg (val (xs.drop k)) (show val ys ≠ 0 by omega)
  have m1 := Int.emod_lt_of_pos (val (xs.drop k)) hVp
  refine ⟨⟨hW, l1, l2, l3, l4, hn, bt.2, bv.1, bv.2, b3.1, b3.2, by omega, hu, hV, huV, Int.ediv_nonneg hu0 (Int.le_of_lt hVp), by omega, ?_⟩, hz⟩
  have e : (val (xs.drop k) / val ys + 1) * val ys = val (xs.drop k) / val ys * val ys + val ys := by grind
  omega

theorem subr_step {x ys : List Int} {k i : Nat} {xi yi q c c' s R : Int} (hv : val x - c * pw (k + i) = R - q * val (ys.take i) * pw k) (hx : x[k + i]? = some xi) (hy : ys[i]? = some yi) (hs : s = xi - q * yi - c + c' * 1000000000) :
    val (x.set (k + i) s) - c' * pw (k + (i + 1)) = R - q * val (ys.take (i + 1)) * pw k := by
  rw [val_set hx, val_take hy, show k + (i + 1) = (k + i) + 1 by omega, pw_succ]
  have e : pw (k + i) = pw k * pw i := pw_add k i
  have e2 : val x = R - q * val (ys.take i) * pw k + c * pw (k + i) := by omega
  subst hs
  rw [e2, e]
  grind

theorem addr_step {x ys : List Int} {k i : Nat} {xi yi c c' s R : Int} (hv : val x + c * pw (k + i) = R + val (ys.take i) * pw k) (hx : x[k + i]? = some xi) (hy : ys[i]? = some yi) (hs : s = xi + yi + c - c' * 1000000000) :
    val (x.set (k + i) s) + c' * pw (k + (i + 1)) = R + val (ys.take (i + 1)) * pw k := by
  rw [val_set hx, val_take hy, show k + (i + 1) = (k + i) + 1 by omega, pw_succ]
  have e : pw (k + i) = pw k * pw i := pw_add k i
  have e2 : val x = R + val (ys.take i) * pw k - c * pw (k + i) := by omega
  subst hs
  rw [e2, e]
  grind

theorem borrow_bound {xi yi q c : Int} (h1 : 0 ≤ xi) (h2 : xi < 1000000000) (h3 : 0 ≤ yi) (h4 : yi < 1000000000) (h5 : 0 ≤ q) (h6 : q ≤ 1000000000) (h7 : 0 ≤ c) (h8 : c ≤ q) :
    0 ≤ q * yi ∧ q * yi ≤ 1000000000000000000 ∧ -(q * 1000000000) ≤ xi - q * yi - c := by
  have a := Int.mul_nonneg h5 h3
  have b : q * yi ≤ q * 999999999 := Int.mul_le_mul_of_nonneg_left (by omega) h5
  refine ⟨a, by omega, by omega⟩

/-- What the subtraction of q times the divisor comes to. -/
theorem sub_round {xs x1 ys : List Int} {k M : Nat} {d1 q c qt : Int} (dx : Dig xs) (d1x : Dig x1) (dy : Dig ys) (hly : ys.length = M + 2) (hl : k + M + 2 < xs.length) (hl1 : x1.length = xs.length) (h1 : xs[k + M + 2]? = some d1) (hz : val (xs.drop (k + M + 3)) = 0)
    (hd : x1.drop (k + M + 2) = xs.drop (k + M + 2)) (ht : x1.take k = xs.take k) (hv : val x1 - c * pw (k + (M + 2)) = val xs - q * val ys * pw k)
    (q1 : qt * val ys ≤ val (xs.drop k)) (q2 : val (xs.drop k) < (qt + 1) * val ys) (hq : qt ≤ q ∧ q ≤ qt + 1) :
    (d1 - c = 0 ∧ q = qt) ∨ (d1 - c = -1 ∧ q = qt + 1) := by
  have hx1 : x1[k + M + 2]? = some d1 := by
    have := congrArg (fun l => l[0]?) hd
    simpa [h1] using this
  have hy0 := dy.nonneg
  have hyl := dy.lt
  rw [hly] at hyl
  have e1 := val_split xs k (by omega)
  have e2 := val_split x1 k (by omega)
  rw [ht] at e2
  have e3 := val_drop_add (xs := x1) (k := k) (j := M + 2) (by omega)
  have hd' : val (x1.drop (k + (M + 2))) = d1 := by
    rw [show k + (M + 2) = k + M + 2 by omega, val_drop hx1]
    have : x1.drop (k + M + 2 + 1) = xs.drop (k + M + 3) := by
      have := congrArg (List.drop 1) hd
      simpa [List.drop_drop] using this
    rw [this, hz]; omega
  rw [hd'] at e3
  have l1 := ((d1x.drop k).take (M + 2)).nonneg
  have l2 := ((d1x.drop k).take (M + 2)).lt
  rw [List.length_take, List.length_drop, Nat.min_eq_left (by omega)] at l2
  have hpk := pw_pos k
  have hpM := pw_pos (M + 2)
  -- u - q V = L + (d1 - c) B^N
  have key : val (xs.drop k) - q * val ys = val ((x1.drop k).take (M + 2)) + (d1 - c) * pw (M + 2) := by
    have e4 : pw (k + (M + 2)) = pw k * pw (M + 2) := pw_add k (M + 2)
    rw [e4] at hv
    have e5 : (val (xs.drop k) - q * val ys) * pw k = (val ((x1.drop k).take (M + 2)) + (d1 - c) * pw (M + 2)) * pw k := by
      rw [e1, e2, e3] at hv
      grind
    exact Int.eq_of_mul_eq_mul_right (by omega) e5
  generalize hL : val ((x1.drop k).take (M + 2)) = L at key l1 l2
  generalize hu : val (xs.drop k) = u at key q1 q2
  generalize hY : val ys = Y at key q1 q2 hy0 hyl
  generalize hP : pw (M + 2) = p at key hyl hpM l2
  have e6 : (qt + 1) * Y = qt * Y + Y := by grind
  rcases (show q = qt ∨ q = qt + 1 by omega) with rfl | rfl
  · left
    refine ⟨?_, rfl⟩
    rcases Int.lt_trichotomy (d1 - c) 0 with h | h | h
    · have := Int.mul_le_mul_of_nonneg_right (show d1 - c ≤ -1 by omega) (Int.le_of_lt hpM)
      omega
    · exact h
    · have := Int.mul_le_mul_of_nonneg_right (show 1 ≤ d1 - c by omega) (Int.le_of_lt hpM)
      omega
  · right
    refine ⟨?_, rfl⟩
    rcases Int.lt_trichotomy (d1 - c) (-1) with h | h | h
    · have := Int.mul_le_mul_of_nonneg_right (show d1 - c ≤ -2 by omega) (Int.le_of_lt hpM)
      omega
    · exact h
    · have := Int.mul_le_mul_of_nonneg_right (show 0 ≤ d1 - c by omega) (Int.le_of_lt hpM)
      omega

/-- The remainder behind a round is small. -/
theorem round_lt {xs : List Int} {k : Nat} {Y qt R : Int} (dx : Dig xs) (hk : k ≤ xs.length) (q2 : val (xs.drop k) < (qt + 1) * Y) (hR : R = val xs - qt * Y * pw k) : R < Y * pw k := by
  have e1 := val_split xs k hk
  have l2 := (dx.take k).lt
  rw [List.length_take, Nat.min_eq_left hk] at l2
  have hpk := pw_pos k
  have h1 : (val (xs.drop k) + 1) * pw k ≤ ((qt + 1) * Y) * pw k := Int.mul_le_mul_of_nonneg_right (by omega) (Int.le_of_lt hpk)
  have e2 : (val (xs.drop k) + 1) * pw k = pw k * val (xs.drop k) + pw k := by grind
  have e3 : ((qt + 1) * Y) * pw k = qt * Y * pw k + Y * pw k := by grind
  omega

theorem round_ge {xs : List Int} {k : Nat} {Y qt R : Int} (dx : Dig xs) (hk : k ≤ xs.length) (q1 : qt * Y ≤ val (xs.drop k)) (hR : R = val xs - qt * Y * pw k) : 0 ≤ R := by
  have e1 := val_split xs k hk
  have l2 := (dx.take k).nonneg
  have hpk := pw_pos k
  have h1 : (qt * Y) * pw k ≤ val (xs.drop k) * pw k := Int.mul_le_mul_of_nonneg_right q1 (Int.le_of_lt hpk)
  have e2 : val (xs.drop k) * pw k = pw k * val (xs.drop k) := Int.mul_comm _ _
  omega

theorem at_drop0 {xs ys : List Int} {j : Nat} (h : xs.drop j = ys.drop j) : xs[j]? = ys[j]? := by
  have := congrArg (fun l => l[0]?) h
  simpa using this
theorem drop_set1 {xs : List Int} {i : Nat} {a : Int} : (xs.set i a).drop (i + 1) = xs.drop (i + 1) := by
  rw [List.drop_set]; simp
/-- The end of the addition: the carry is 1. -/
theorem add_fin {w : List Int} {j : Nat} {c R : Int} (dw : Dig w) (hj : j < w.length) (h0 : w[j]? = some 0) (hz : val (w.drop (j + 1)) = 0) (hc : c = 0 ∨ c = 1) (hR : 0 ≤ R) (hv : val w + c * pw j = R + pw j) : c = 1 ∧ val w = R := by
  rcases hc with rfl | rfl
  · exfalso
    have hs := val_split w j (by omega)
    rw [val_drop h0, hz] at hs
    have l := (dw.take j).lt
    rw [List.length_take, Nat.min_eq_left (by omega)] at l
    omega
  · exact ⟨rfl, by omega⟩
theorem set_zero_self {w : List Int} {j : Nat} (h0 : w[j]? = some 0) : w.set j 0 = w := by
  refine List.ext_getElem? fun i => ?_
  by_cases h : j = i
  · subst h
    rw [List.getElem?_set_self (List.getElem?_eq_some_iff.1 h0).1, h0]
  · rw [List.getElem?_set_ne h]
end Go.Am
/-! Walks: lists of limbs. -/
namespace Go.Am
set_option linter.unusedVariables false
set_option linter.unusedSimpArgs false
set_option maxRecDepth 10000
set_option maxHeartbeats 4000000
theorem getc {α : Type} {xs : List α} {i : Nat} (h : i < xs.length) : ∃ a, xs[i]? = some a := ⟨_, List.getElem?_eq_getElem h⟩
def c_impl_copyInts : AF := ⟨5, .seq (.ops [⟨(some 2), .mv (.c .nl), none, []⟩])
  (.seq (.ops [⟨(some 3), .mv (.t 0), none, []⟩,
   ⟨(some 4), .app 1 8 (.c .nl) (.t 3), none, []⟩,
   ⟨(some 2), .mv (.t 4), none, []⟩])
  (.ret)), [.t 2]⟩
def K_impl_copyInts (P : Program) (f : Nat) : Prop := ∀ xs : List Int, xs.length ≤ 1048576 → OCI P f [ints xs] xs
theorem t_impl_copyInts {P : Program} {f : Nat} (h : Has P f c_impl_copyInts) : K_impl_copyInts P f := by
  intro xs hx n
  refine mc_go h (by simp) ?_
  simp -implicitDefEqProofs (disch := omega) only [↓walk, plain, List.length_map, List.getElem?_map, Option.map_some, Nat.reduceBEq, decT, decF, iteT, iteF, wrap_ok, Int.reduceToNat, Int.reduceLE, Int.reduceLT, Int.reduceAdd, Int.reduceSub, Int.reduceNeg, reduceIte, Nat.reduceEqDiff, Nat.reduceAdd, Nat.reduceSub, Nat.reduceMul, Nat.reduceLeDiff, Nat.reduceShiftRight, Nat.reduceMod, reduceCtorEq, ints]
  by_cases h0 : xs = []
  · subst h0
    simp -implicitDefEqProofs (disch := omega) only [↓walk, plain, List.length_map, List.getElem?_map, Option.map_some, Nat.reduceBEq, decT, decF, iteT, iteF, wrap_ok, Int.reduceToNat, Int.reduceLE, Int.reduceLT, Int.reduceAdd, Int.reduceSub, Int.reduceNeg, reduceIte, Nat.reduceEqDiff, Nat.reduceAdd, Nat.reduceSub, Nat.reduceMul, Nat.reduceLeDiff, Nat.reduceShiftRight, Nat.reduceMod, reduceCtorEq, List.map_nil, List.isEmpty_nil]
    exact .inl ⟨rfl, rfl⟩
  · have e1 : (xs.map (AV.i .i64)).isEmpty = false := by simp [h0]
    have e2 : ∀ xs : List Int, (xs.map (AV.i .i64)).all (fun y => y.cells.length == 1 && y.cells.all cellOk) = true := by intro xs; simp [AV.cells, cellOk]
    have e3 : xs.length * 8 ≤ maxB := by simp only [maxB]; omega
    have e4 : xs.length ≤ 9223372036854775807 := by omega
    simp -implicitDefEqProofs (disch := omega) only [↓walk, plain, List.length_map, List.getElem?_map, Option.map_some, Nat.reduceBEq, decT, decF, iteT, iteF, wrap_ok, Int.reduceToNat, Int.reduceLE, Int.reduceLT, Int.reduceAdd, Int.reduceSub, Int.reduceNeg, reduceIte, Nat.reduceEqDiff, Nat.reduceAdd, Nat.reduceSub, Nat.reduceMul, Nat.reduceLeDiff, Nat.reduceShiftRight, Nat.reduceMod, reduceCtorEq, e1, e2, e3, e4, List.length_map]
    refine .inr ⟨_, _, ?_, rfl, by simp -implicitDefEqProofs (disch := omega) only [↓walk, plain, List.length_map, List.getElem?_map, Option.map_some, Nat.reduceBEq, decT, decF, iteT, iteF, wrap_ok, Int.reduceToNat, Int.reduceLE, Int.reduceLT, Int.reduceAdd, Int.reduceSub, Int.reduceNeg, reduceIte, Nat.reduceEqDiff, Nat.reduceAdd, Nat.reduceSub, Nat.reduceMul, Nat.reduceLeDiff, Nat.reduceShiftRight, Nat.reduceMod, reduceCtorEq]; rfl, by rw [List.take_of_length_le (by simp)]⟩
    omega
def c_impl_isOne : AF := ⟨12, .seq (.ops [⟨(some 2), .mv (.c (.b false)), none, []⟩])
  (.seq (.ops [⟨(some 3), .mv (.t 0), none, []⟩,
   ⟨(some 4), .len (.t 3), none, []⟩,
   ⟨(some 5), .bin .eql (.t 4) (.c (.i .i64 1)), none, []⟩,
   ⟨(some 6), .mv (.t 5), none, []⟩,
   ⟨(some 7), .mv (.t 0), some (6, true), []⟩,
   ⟨(some 8), .iad 1 (.t 7) (.c (.i .i64 0)), some (6, true), []⟩,
   ⟨(some 9), .ld none (.t 8), some (6, true), []⟩,
   ⟨(some 10), .bin .eql (.t 9) (.c (.i .i64 1)), some (6, true), []⟩,
   ⟨(some 11), .pick (.t 6) (.t 10) (.c (.b false)), none, []⟩,
   ⟨(some 2), .mv (.t 11), none, []⟩])
  (.ret)), [.t 2]⟩
def K_impl_isOne (P : Program) (f : Nat) : Prop := ∀ xs : List Int, xs.length < 9223372036854775808 → SC P f [ints xs] (.b (decide (xs = [1])))
theorem t_impl_isOne {P : Program} {f : Nat} (h : Has P f c_impl_isOne) : K_impl_isOne P f := by
  intro xs hx
  refine sc_go h (by simp) ?_
  cases xs with
  | nil =>
    simp -implicitDefEqProofs (disch := omega) only [↓walk, plain, List.length_map, List.getElem?_map, Option.map_some, Nat.reduceBEq, decT, decF, iteT, iteF, wrap_ok, Int.reduceToNat, Int.reduceLE, Int.reduceLT, Int.reduceAdd, Int.reduceSub, Int.reduceNeg, reduceIte, Nat.reduceEqDiff, Nat.reduceAdd, Nat.reduceSub, Nat.reduceMul, Nat.reduceLeDiff, Nat.reduceShiftRight, Nat.reduceMod, reduceCtorEq, ints, List.map_nil, Int.reduceBEq]
    exact data_b (by simp)
  | cons a r =>
    cases r with
    | nil =>
      simp -implicitDefEqProofs (disch := omega) only [↓walk, plain, List.length_map, List.getElem?_map, Option.map_some, Nat.reduceBEq, decT, decF, iteT, iteF, wrap_ok, Int.reduceToNat, Int.reduceLE, Int.reduceLT, Int.reduceAdd, Int.reduceSub, Int.reduceNeg, reduceIte, Nat.reduceEqDiff, Nat.reduceAdd, Nat.reduceSub, Nat.reduceMul, Nat.reduceLeDiff, Nat.reduceShiftRight, Nat.reduceMod, reduceCtorEq, ints, List.map_cons, List.map_nil, Int.reduceToNat]
      exact data_b (by simp)
    | cons b r =>
      simp -implicitDefEqProofs (disch := omega) only [↓walk, plain, List.length_map, List.getElem?_map, Option.map_some, Nat.reduceBEq, decT, decF, iteT, iteF, wrap_ok, Int.reduceToNat, Int.reduceLE, Int.reduceLT, Int.reduceAdd, Int.reduceSub, Int.reduceNeg, reduceIte, Nat.reduceEqDiff, Nat.reduceAdd, Nat.reduceSub, Nat.reduceMul, Nat.reduceLeDiff, Nat.reduceShiftRight, Nat.reduceMod, reduceCtorEq, ints, List.map_cons, List.map_nil]
      exact data_b (by simp)
def c_impl_hasInt : AF := ⟨17, .seq (.ops [⟨(some 4), .mv (.c (.b false)), none, []⟩])
  (.seq (.seq (.ops [⟨(some 7), .mv (.t 0), none, []⟩,
   ⟨(some 8), .len (.t 7), none, []⟩,
   ⟨(some 9), .mv (.c (.i .i64 0)), none, []⟩])
  (.block 0 (.loop (.seq (.ops [⟨(some 10), .bin .lss (.t 9) (.t 8), none, []⟩])
  (.seq (.cond (.t 10)
  (.skip)
  (.exit 0))
  (.seq (.block 1 (.seq (.ops [⟨(some 11), .iad 1 (.t 7) (.t 9), none, []⟩,
   ⟨(some 12), .ld none (.t 11), none, []⟩,
   ⟨(some 6), .mv (.t 12), none, []⟩])
  (.seq (.ops [⟨(some 13), .mv (.t 6), none, []⟩,
   ⟨(some 14), .mv (.t 1), none, []⟩,
   ⟨(some 15), .bin .eql (.t 13) (.t 14), none, []⟩])
  (.cond (.t 15)
  (.seq (.ops [⟨(some 4), .mv (.c (.b true)), none, []⟩])
   (.ret))
  (.skip)))))
  (.ops [⟨(some 16), .bin .add (.t 9) (.c (.i .i64 1)), none, []⟩,
   ⟨(some 9), .mv (.t 16), none, []⟩])))))))
  (.seq (.ops [⟨(some 4), .mv (.c (.b false)), none, []⟩])
  (.ret))), [.t 4]⟩
def K_impl_hasInt (P : Program) (f : Nat) : Prop := ∀ (xs : List Int) (x : Int), xs.length < 9223372036854775808 → SC P f [ints xs, .i .i64 x] (.b (decide (x ∈ xs)))
theorem t_impl_hasInt {P : Program} {f : Nat} (h : Has P f c_impl_hasInt) : K_impl_hasInt P f := by
  intro xs x hx
  refine sc_go h (by simp) ?_
  simp -implicitDefEqProofs (disch := omega) only [↓walk, plain, List.length_map, List.getElem?_map, Option.map_some, Nat.reduceBEq, decT, decF, iteT, iteF, wrap_ok, Int.reduceToNat, Int.reduceLE, Int.reduceLT, Int.reduceAdd, Int.reduceSub, Int.reduceNeg, reduceIte, Nat.reduceEqDiff, Nat.reduceAdd, Nat.reduceSub, Nat.reduceMul, Nat.reduceLeDiff, Nat.reduceShiftRight, Nat.reduceMod, reduceCtorEq, ints]
  refine go_loopm 130640 (by first | rfl | (simp only [mods, modsL, modsD, optB]; rfl)) (fun k fr H n => ∃ i : Nat, i ≤ xs.length ∧ k = xs.length - i ∧ fr 9 = .i .i64 i ∧ ¬ x ∈ xs.take i) xs.length ?_ ?_
  · exact ⟨0, by omega, by omega, rfl, by simp⟩
  · rintro k fr H n ⟨i, hi, rfl, f9, ht⟩
    simp -implicitDefEqProofs (disch := omega) only [↓walk, plain, List.length_map, List.getElem?_map, Option.map_some, Nat.reduceBEq, decT, decF, iteT, iteF, wrap_ok, Int.reduceToNat, Int.reduceLE, Int.reduceLT, Int.reduceAdd, Int.reduceSub, Int.reduceNeg, reduceIte, Nat.reduceEqDiff, Nat.reduceAdd, Nat.reduceSub, Nat.reduceMul, Nat.reduceLeDiff, Nat.reduceShiftRight, Nat.reduceMod, reduceCtorEq, f9, List.length_map]
    refine goC_dec (fun hlt => ?_) (fun hlt => ?_)
    · obtain ⟨a, ha⟩ := getc (xs := xs) (i := i) (by omega)
      simp -implicitDefEqProofs (disch := omega) only [↓walk, plain, List.length_map, List.getElem?_map, Option.map_some, Nat.reduceBEq, decT, decF, iteT, iteF, wrap_ok, Int.reduceToNat, Int.reduceLE, Int.reduceLT, Int.reduceAdd, Int.reduceSub, Int.reduceNeg, reduceIte, Nat.reduceEqDiff, Nat.reduceAdd, Nat.reduceSub, Nat.reduceMul, Nat.reduceLeDiff, Nat.reduceShiftRight, Nat.reduceMod, reduceCtorEq, f9, List.getElem?_map, ha, Option.map_some]
      refine goC_dec (fun he => ?_) (fun he => ?_)
      · simp -implicitDefEqProofs (disch := omega) only [↓walk, plain, List.length_map, List.getElem?_map, Option.map_some, Nat.reduceBEq, decT, decF, iteT, iteF, wrap_ok, Int.reduceToNat, Int.reduceLE, Int.reduceLT, Int.reduceAdd, Int.reduceSub, Int.reduceNeg, reduceIte, Nat.reduceEqDiff, Nat.reduceAdd, Nat.reduceSub, Nat.reduceMul, Nat.reduceLeDiff, Nat.reduceShiftRight, Nat.reduceMod, reduceCtorEq]
        exact data_b (Eq.symm (decide_eq_true (he ▸ List.mem_of_getElem? ha)))
      · simp -implicitDefEqProofs (disch := omega) only [↓walk, plain, List.length_map, List.getElem?_map, Option.map_some, Nat.reduceBEq, decT, decF, iteT, iteF, wrap_ok, Int.reduceToNat, Int.reduceLE, Int.reduceLT, Int.reduceAdd, Int.reduceSub, Int.reduceNeg, reduceIte, Nat.reduceEqDiff, Nat.reduceAdd, Nat.reduceSub, Nat.reduceMul, Nat.reduceLeDiff, Nat.reduceShiftRight, Nat.reduceMod, reduceCtorEq, f9]
        refine ⟨_, ?_, i + 1, by omega, rfl, rfl, ?_⟩
        · omega
        · rw [List.take_add_one, ha]
          simp only [Option.toList_some, List.mem_append, List.mem_singleton]
          rintro (h1 | h1)
          · exact ht h1
          · exact he h1.symm
    · simp -implicitDefEqProofs (disch := omega) only [↓walk, plain, List.length_map, List.getElem?_map, Option.map_some, Nat.reduceBEq, decT, decF, iteT, iteF, wrap_ok, Int.reduceToNat, Int.reduceLE, Int.reduceLT, Int.reduceAdd, Int.reduceSub, Int.reduceNeg, reduceIte, Nat.reduceEqDiff, Nat.reduceAdd, Nat.reduceSub, Nat.reduceMul, Nat.reduceLeDiff, Nat.reduceShiftRight, Nat.reduceMod, reduceCtorEq]
      refine data_b (Eq.symm (decide_eq_false ?_))
      rwa [List.take_of_length_le (by omega)] at ht
def TrimAt (xs : List Int) (k : Nat) : Prop := (∀ (i : Nat) (a : Int), k ≤ i → xs[i]? = some a → a = 0) ∧ (k = 0 ∨ ∃ a, xs[k - 1]? = some a ∧ a ≠ 0)
def c_impl_trim : AF := ⟨21, .seq (.ops [⟨(some 2), .mv (.c .nl), none, []⟩])
  (.seq (.ops [⟨(some 4), .mv (.t 0), none, []⟩,
   ⟨(some 5), .len (.t 4), none, []⟩,
   ⟨(some 3), .mv (.t 5), none, []⟩])
  (.seq (.block 0 (.loop (.seq (.seq (.ops [⟨(some 6), .mv (.t 3), none, []⟩,
   ⟨(some 7), .bin .gtr (.t 6) (.c (.i .i64 0)), none, []⟩,
   ⟨(some 8), .mv (.t 7), none, []⟩,
   ⟨(some 9), .mv (.t 0), some (8, true), []⟩,
   ⟨(some 10), .mv (.t 3), some (8, true), []⟩,
   ⟨(some 11), .bin .sub (.t 10) (.c (.i .i64 1)), some (8, true), []⟩,
   ⟨(some 12), .iad 1 (.t 9) (.t 11), some (8, true), []⟩,
   ⟨(some 13), .ld none (.t 12), some (8, true), []⟩,
   ⟨(some 14), .bin .eql (.t 13) (.c (.i .i64 0)), some (8, true), []⟩,
   ⟨(some 15), .pick (.t 8) (.t 14) (.c (.b false)), none, []⟩])
  (.cond (.t 15)
  (.skip)
  (.exit 0)))
  (.block 1 (.ops [⟨(some 16), .mv (.t 3), none, []⟩,
   ⟨(some 17), .bin .sub (.t 16) (.c (.i .i64 1)), none, []⟩,
   ⟨(some 3), .mv (.t 17), none, []⟩])))))
  (.seq (.ops [⟨(some 18), .mv (.t 0), none, []⟩,
   ⟨(some 19), .mv (.t 3), none, []⟩,
   ⟨(some 20), .slc 1 (.t 18) none (some (.t 19)), none, []⟩,
   ⟨(some 2), .mv (.t 20), none, []⟩])
  (.ret)))), [.t 2]⟩
def K_impl_trim (P : Program) (f : Nat) : Prop := (∀ (H : Heap) (n t : Nat) (xs : List Int), xs.length < 9223372036854775808 → H t = some (1, xs.map (.i .i64)) → MC P f [.rf t 0 xs.length] H n (fun v H' n' => H' = H ∧ n ≤ n' ∧ ∃ k, k ≤ xs.length ∧ v = .rf t 0 k ∧ TrimAt xs k)) ∧ (∀ (H : Heap) (n : Nat), MC P f [.nl] H n (fun v H' n' => H' = H ∧ n ≤ n' ∧ v = .nl))
theorem t_impl_trim {P : Program} {f : Nat} (h : Has P f c_impl_trim) : K_impl_trim P f := by
  refine ⟨?_, fun H n => ?_⟩
  rotate_left
  · refine mc_go h (by simp) ?_
    simp -implicitDefEqProofs (disch := omega) only [↓walk, plain, List.length_map, List.getElem?_map, Option.map_some, Nat.reduceBEq, decT, decF, iteT, iteF, wrap_ok, Int.reduceToNat, Int.reduceLE, Int.reduceLT, Int.reduceAdd, Int.reduceSub, Int.reduceNeg, reduceIte, Nat.reduceEqDiff, Nat.reduceAdd, Nat.reduceSub, Nat.reduceMul, Nat.reduceLeDiff, Nat.reduceShiftRight, Nat.reduceMod, reduceCtorEq]
    refine go_loopm 262088 (by first | rfl | (simp only [mods, modsL, modsD, optB]; rfl)) (fun k fr H' n' => fr 3 = .i .i64 0 ∧ H' = H ∧ n ≤ n') 0 ?_ ?_
    · simp -implicitDefEqProofs (disch := omega) only [↓walk, plain, List.length_map, List.getElem?_map, Option.map_some, Nat.reduceBEq, decT, decF, iteT, iteF, wrap_ok, Int.reduceToNat, Int.reduceLE, Int.reduceLT, Int.reduceAdd, Int.reduceSub, Int.reduceNeg, reduceIte, Nat.reduceEqDiff, Nat.reduceAdd, Nat.reduceSub, Nat.reduceMul, Nat.reduceLeDiff, Nat.reduceShiftRight, Nat.reduceMod, reduceCtorEq]
      (repeat' first | refine And.intro ?_ ?_ | rfl | omega | assumption | exact trivial | (dsimp only; omega))
    · rintro k fr H' n' ⟨f3, rfl, hn⟩
      simp -implicitDefEqProofs (disch := omega) only [↓walk, plain, List.length_map, List.getElem?_map, Option.map_some, Nat.reduceBEq, decT, decF, iteT, iteF, wrap_ok, Int.reduceToNat, Int.reduceLE, Int.reduceLT, Int.reduceAdd, Int.reduceSub, Int.reduceNeg, reduceIte, Nat.reduceEqDiff, Nat.reduceAdd, Nat.reduceSub, Nat.reduceMul, Nat.reduceLeDiff, Nat.reduceShiftRight, Nat.reduceMod, reduceCtorEq, f3]
      omega
  intro H n t xs hx hH
  refine mc_go h (by simp) ?_
  simp -implicitDefEqProofs (disch := omega) only [↓walk, plain, List.length_map, List.getElem?_map, Option.map_some, Nat.reduceBEq, decT, decF, iteT, iteF, wrap_ok, Int.reduceToNat, Int.reduceLE, Int.reduceLT, Int.reduceAdd, Int.reduceSub, Int.reduceNeg, reduceIte, Nat.reduceEqDiff, Nat.reduceAdd, Nat.reduceSub, Nat.reduceMul, Nat.reduceLeDiff, Nat.reduceShiftRight, Nat.reduceMod, reduceCtorEq]
  refine go_loopm 262088 (by first | rfl | (simp only [mods, modsL, modsD, optB]; rfl)) (fun k fr H' n' => k ≤ xs.length ∧ fr 3 = .i .i64 k ∧ H' = H ∧ n ≤ n' ∧ (∀ (i : Nat) (a : Int), k ≤ i → xs[i]? = some a → a = 0)) xs.length ?_ ?_
  · (repeat' first | refine And.intro ?_ ?_ | rfl | omega | assumption | exact trivial | (dsimp only; omega))
    intro i a h1 h2
    have := (List.getElem?_eq_some_iff.1 h2).1; omega
  · rintro k fr H' n' ⟨hk, f3, rfl, hn, hz⟩
    simp -implicitDefEqProofs (disch := omega) only [↓walk, plain, List.length_map, List.getElem?_map, Option.map_some, Nat.reduceBEq, decT, decF, iteT, iteF, wrap_ok, Int.reduceToNat, Int.reduceLE, Int.reduceLT, Int.reduceAdd, Int.reduceSub, Int.reduceNeg, reduceIte, Nat.reduceEqDiff, Nat.reduceAdd, Nat.reduceSub, Nat.reduceMul, Nat.reduceLeDiff, Nat.reduceShiftRight, Nat.reduceMod, reduceCtorEq, f3]
    refine goG_dec (fun h0 => ?_) (fun h0 => ?_)
    · obtain ⟨a, ha⟩ := getc (xs := xs) (i := k - 1) (by omega)
      have e1 : ((k : Int) - 1) = ((k - 1 : Nat) : Int) := by omega
      simp -implicitDefEqProofs (disch := omega) only [↓walk, plain, List.length_map, List.getElem?_map, Option.map_some, Nat.reduceBEq, decT, decF, iteT, iteF, wrap_ok, Int.reduceToNat, Int.reduceLE, Int.reduceLT, Int.reduceAdd, Int.reduceSub, Int.reduceNeg, reduceIte, Nat.reduceEqDiff, Nat.reduceAdd, Nat.reduceSub, Nat.reduceMul, Nat.reduceLeDiff, Nat.reduceShiftRight, Nat.reduceMod, reduceCtorEq, f3, e1, hH, List.getElem?_map, ha, Option.map_some]
      refine goC_dec (fun he => ?_) (fun he => ?_)
      · simp -implicitDefEqProofs (disch := omega) only [↓walk, plain, List.length_map, List.getElem?_map, Option.map_some, Nat.reduceBEq, decT, decF, iteT, iteF, wrap_ok, Int.reduceToNat, Int.reduceLE, Int.reduceLT, Int.reduceAdd, Int.reduceSub, Int.reduceNeg, reduceIte, Nat.reduceEqDiff, Nat.reduceAdd, Nat.reduceSub, Nat.reduceMul, Nat.reduceLeDiff, Nat.reduceShiftRight, Nat.reduceMod, reduceCtorEq, f3, e1]
        refine ⟨k - 1, ?_⟩
        (repeat' first | refine And.intro ?_ ?_ | rfl | omega | assumption | exact trivial | (dsimp only; omega))
        intro i b h1 h2
        by_cases h3 : i = k - 1
        · subst h3; rw [ha] at h2; cases h2; exact he
        · exact hz i b (by omega) h2
      · simp -implicitDefEqProofs (disch := omega) only [↓walk, plain, List.length_map, List.getElem?_map, Option.map_some, Nat.reduceBEq, decT, decF, iteT, iteF, wrap_ok, Int.reduceToNat, Int.reduceLE, Int.reduceLT, Int.reduceAdd, Int.reduceSub, Int.reduceNeg, reduceIte, Nat.reduceEqDiff, Nat.reduceAdd, Nat.reduceSub, Nat.reduceMul, Nat.reduceLeDiff, Nat.reduceShiftRight, Nat.reduceMod, reduceCtorEq, f3, hH, List.length_map]
        refine ⟨by omega, k, hk, rfl, hz, .inr ⟨a, ha, he⟩⟩
    · simp -implicitDefEqProofs (disch := omega) only [↓walk, plain, List.length_map, List.getElem?_map, Option.map_some, Nat.reduceBEq, decT, decF, iteT, iteF, wrap_ok, Int.reduceToNat, Int.reduceLE, Int.reduceLT, Int.reduceAdd, Int.reduceSub, Int.reduceNeg, reduceIte, Nat.reduceEqDiff, Nat.reduceAdd, Nat.reduceSub, Nat.reduceMul, Nat.reduceLeDiff, Nat.reduceShiftRight, Nat.reduceMod, reduceCtorEq, f3, hH, List.length_map]
      exact ⟨by omega, k, hk, rfl, hz, .inl (by omega)⟩
end Go.Am
/-! Walks: numbers out of machine integers, comparison, sums. -/
namespace Go.Am
set_option linter.unusedVariables false
set_option linter.unusedSimpArgs false
set_option maxRecDepth 10000
set_option maxHeartbeats 4000000
/-- A list of integers under construction. -/
def LI (n n2 : Nat) (v : AV) (H : Heap) (xs : List Int) : Prop := (xs = [] ∧ v = .nl) ∨ ∃ T, n ≤ T ∧ T < n2 ∧ v = .rf T 0 xs.length ∧ H T = some (1, xs.map (.i .i64))
theorem LI.own {n n2 : Nat} {v : AV} {H : Heap} {xs : List Int} (h : LI n n2 v H xs) : OwnI n v H xs := by
  rcases h with ⟨rfl, rfl⟩ | ⟨T, h1, _, rfl, h2⟩
  · exact .inl ⟨rfl, rfl⟩
  · exact .inr ⟨T, _, h1, rfl, h2, by rw [List.take_of_length_le (by simp)]⟩
theorem LI.mk1 {n n2 T : Nat} {H : Heap} {a : Int} (h1 : n ≤ T) (h2 : T < n2) : LI n n2 (.rf T 0 1) (H.upd T (1, [.i .i64 a])) [a] := .inr ⟨T, h1, h2, rfl, Heap.upd_self _ _ _⟩
theorem LI.snoc {n n2 T : Nat} {H : Heap} {ds : List Int} {a : Int} (h1 : n ≤ T) (h2 : T < n2) : LI n n2 (.rf T 0 (ds.length + 1)) (H.upd T (1, List.take ds.length (ds.map (.i .i64)) ++ [.i .i64 a])) (ds ++ [a]) := by
  refine .inr ⟨T, h1, h2, by simp, ?_⟩
  rw [Heap.upd_self, List.take_of_length_le (by simp)]; simp
def c_impl_NatOf : AF := ⟨14, .seq (.ops [⟨(some 2), .mv (.c .nl), none, []⟩])
  (.seq (.ops [⟨(some 3), .mv (.c .nl), none, []⟩])
  (.seq (.block 0 (.loop (.seq (.seq (.ops [⟨(some 4), .mv (.t 0), none, []⟩,
   ⟨(some 5), .bin .gtr (.t 4) (.c (.i .i64 0)), none, []⟩])
  (.cond (.t 5)
  (.skip)
  (.exit 0)))
  (.seq (.block 1 (.ops [⟨(some 8), .mv (.t 3), none, []⟩,
   ⟨(some 9), .mv (.t 0), none, []⟩,
   ⟨(some 10), .bin .rem (.t 9) (.c (.i .i64 1000000000)), none, []⟩,
   ⟨(some 11), .bsl (.i .i64 0) 1 [(0, (.t 10))], none, []⟩,
   ⟨(some 12), .app 1 8 (.t 8) (.t 11), none, []⟩,
   ⟨(some 3), .mv (.t 12), none, []⟩]))
  (.ops [⟨(some 6), .mv (.t 0), none, []⟩,
   ⟨(some 7), .bin .quo (.t 6) (.c (.i .i64 1000000000)), none, []⟩,
   ⟨(some 0), .mv (.t 7), none, []⟩])))))
  (.seq (.ops [⟨(some 13), .mv (.t 3), none, []⟩,
   ⟨(some 2), .mv (.t 13), none, []⟩])
  (.ret)))), [.t 2]⟩
def K_impl_NatOf (P : Program) (f : Nat) : Prop := ∀ z : Int, z < 9223372036854775808 → OCI P f [.i .i64 z] (limbs z.toNat)
theorem t_impl_NatOf {P : Program} {f : Nat} (h : Has P f c_impl_NatOf) : K_impl_NatOf P f := by
  intro z hz n
  refine mc_go h (by simp) ?_
  simp -implicitDefEqProofs (disch := omega) only [↓walk, plain, List.length_map, List.getElem?_map, Option.map_some, Nat.reduceBEq, decT, decF, iteT, iteF, wrap_ok, Int.reduceToNat, Int.reduceLE, Int.reduceLT, Int.reduceAdd, Int.reduceSub, Int.reduceNeg, reduceIte, Nat.reduceEqDiff, Nat.reduceAdd, Nat.reduceSub, Nat.reduceMul, Nat.reduceLeDiff, Nat.reduceShiftRight, Nat.reduceMod, reduceCtorEq]
  have hlen : (limbs z.toNat).length ≤ 4 := by rw [limbs_len_lt]; simp only [pw]; omega
  refine go_loopm 8185 (by first | rfl | (simp only [mods, modsL, modsD, optB]; rfl)) (fun k fr H' n' => ∃ (q : Int) (ds : List Int), fr 0 = .i .i64 q ∧ q < 9223372036854775808 ∧ k = q.toNat ∧ n ≤ n' ∧ ds ++ limbs q.toNat = limbs z.toNat ∧ LI n n' (fr 3) H' ds) z.toNat ?_ ?_
  · refine ⟨z, [], rfl, hz, rfl, ?_, rfl, .inl ⟨rfl, rfl⟩⟩
    (repeat' first | refine And.intro ?_ ?_ | rfl | omega | assumption | exact trivial | (dsimp only; omega))
  · rintro k fr H' n' ⟨q, ds, f0, hq, rfl, hn, hd, hL⟩
    simp -implicitDefEqProofs (disch := omega) only [↓walk, plain, List.length_map, List.getElem?_map, Option.map_some, Nat.reduceBEq, decT, decF, iteT, iteF, wrap_ok, Int.reduceToNat, Int.reduceLE, Int.reduceLT, Int.reduceAdd, Int.reduceSub, Int.reduceNeg, reduceIte, Nat.reduceEqDiff, Nat.reduceAdd, Nat.reduceSub, Nat.reduceMul, Nat.reduceLeDiff, Nat.reduceShiftRight, Nat.reduceMod, reduceCtorEq, f0]
    refine goC_dec (fun h0 => ?_) (fun h0 => ?_)
    · have e1 : IntKind.i64.wrap (Int.tdiv q 1000000000) = ((q.toNat / 1000000000 : Nat) : Int) := by
        rw [Int.tdiv_eq_ediv_of_nonneg (by omega), wrap_ok (by omega) (by omega)]; omega
      have e2 : Int.tmod q 1000000000 = ((q.toNat % 1000000000 : Nat) : Int) := by
        rw [Int.tmod_eq_emod_of_nonneg (by omega)]; omega
      have hd2 : (ds ++ [((q.toNat % 1000000000 : Nat) : Int)]) ++ limbs (q.toNat / 1000000000) = limbs z.toNat := by
        rw [← hd, limbs_pos (n := q.toNat) (by omega)]; simp
      have hl2 : ds.length + 1 ≤ 4 := by
        have := congrArg List.length hd2
        simp only [List.length_append, List.length_cons, List.length_nil] at this
        omega
      rcases hL with ⟨rfl, f3⟩ | ⟨T, hT, hT2, f3, hHT⟩
      · simp -implicitDefEqProofs (disch := omega) only [↓walk, plain, List.length_map, List.getElem?_map, Option.map_some, Nat.reduceBEq, decT, decF, iteT, iteF, wrap_ok, Int.reduceToNat, Int.reduceLE, Int.reduceLT, Int.reduceAdd, Int.reduceSub, Int.reduceNeg, reduceIte, Nat.reduceEqDiff, Nat.reduceAdd, Nat.reduceSub, Nat.reduceMul, Nat.reduceLeDiff, Nat.reduceShiftRight, Nat.reduceMod, reduceCtorEq, f0, f3, e1, e2, List.isEmpty_cons, maxB]
        refine ⟨q.toNat / 1000000000, by omega, _, _, rfl, ?_, ?_, ?_, ?_, LI.mk1 ?_ ?_⟩
        any_goals omega
        rw [Int.toNat_natCast]; exact hd2
      · simp -implicitDefEqProofs (disch := omega) only [↓walk, plain, List.length_map, List.getElem?_map, Option.map_some, Nat.reduceBEq, decT, decF, iteT, iteF, wrap_ok, Int.reduceToNat, Int.reduceLE, Int.reduceLT, Int.reduceAdd, Int.reduceSub, Int.reduceNeg, reduceIte, Nat.reduceEqDiff, Nat.reduceAdd, Nat.reduceSub, Nat.reduceMul, Nat.reduceLeDiff, Nat.reduceShiftRight, Nat.reduceMod, reduceCtorEq, f0, f3, e1, e2, hHT, List.isEmpty_cons, maxB, List.length_map]
        refine ⟨q.toNat / 1000000000, by omega, _, _, rfl, ?_, ?_, ?_, ?_, LI.snoc ?_ ?_⟩
        any_goals omega
        rw [Int.toNat_natCast]; exact hd2
    · have : q.toNat = 0 := by omega
      rw [this, limbs_zero, List.append_nil] at hd
      subst hd
      simp -implicitDefEqProofs (disch := omega) only [↓walk, plain, List.length_map, List.getElem?_map, Option.map_some, Nat.reduceBEq, decT, decF, iteT, iteF, wrap_ok, Int.reduceToNat, Int.reduceLE, Int.reduceLT, Int.reduceAdd, Int.reduceSub, Int.reduceNeg, reduceIte, Nat.reduceEqDiff, Nat.reduceAdd, Nat.reduceSub, Nat.reduceMul, Nat.reduceLeDiff, Nat.reduceShiftRight, Nat.reduceMod, reduceCtorEq]
      exact hL.own
def cmpN (m n : Nat) : Int := if m < n then -1 else if m = n then 0 else 1
theorem cmpN_lt {m n : Nat} (h : m < n) : cmpN m n = -1 := by simp [cmpN, h]
theorem cmpN_gt {m n : Nat} (h : n < m) : cmpN m n = 1 := by unfold cmpN; rw [if_neg (by omega), if_neg (by omega)]
theorem cmpN_eq {m : Nat} : cmpN m m = 0 := by simp [cmpN]
theorem cmp_limbs {m n i : Nat} {a b : Int} (hl : (limbs m).length = (limbs n).length) (hd : (limbs m).drop (i + 1) = (limbs n).drop (i + 1)) (ha : (limbs m)[i]? = some a) (hb : (limbs n)[i]? = some b) (h : a < b) : m < n := by
  have := cmp_lt (limbs_dig m) (limbs_dig n) hl hd ha hb h
  rw [val_limbs, val_limbs] at this; omega
def c_impl_natCmp : AF := ⟨43, .seq (.ops [⟨(some 4), .mv (.c (.i .i64 0)), none, []⟩])
  (.seq (.seq (.ops [⟨(some 6), .mv (.t 0), none, []⟩,
   ⟨(some 7), .len (.t 6), none, []⟩,
   ⟨(some 8), .mv (.t 1), none, []⟩,
   ⟨(some 9), .len (.t 8), none, []⟩,
   ⟨(some 10), .bin .neq (.t 7) (.t 9), none, []⟩])
  (.cond (.t 10)
  (.seq (.seq (.ops [⟨(some 11), .mv (.t 0), none, []⟩,
    ⟨(some 12), .len (.t 11), none, []⟩,
    ⟨(some 13), .mv (.t 1), none, []⟩,
    ⟨(some 14), .len (.t 13), none, []⟩,
    ⟨(some 15), .bin .lss (.t 12) (.t 14), none, []⟩])
   (.cond (.t 15)
   (.seq (.ops [⟨(some 4), .mv (.c (.i .i64 (-1))), none, []⟩])
    (.ret))
   (.skip)))
   (.seq (.ops [⟨(some 4), .mv (.c (.i .i64 1)), none, []⟩])
   (.ret)))
  (.skip)))
  (.seq (.seq (.ops [⟨(some 16), .mv (.t 0), none, []⟩,
   ⟨(some 17), .len (.t 16), none, []⟩,
   ⟨(some 18), .bin .sub (.t 17) (.c (.i .i64 1)), none, []⟩,
   ⟨(some 5), .mv (.t 18), none, []⟩])
  (.block 0 (.loop (.seq (.seq (.ops [⟨(some 19), .mv (.t 5), none, []⟩,
   ⟨(some 20), .bin .geq (.t 19) (.c (.i .i64 0)), none, []⟩])
  (.cond (.t 20)
  (.skip)
  (.exit 0)))
  (.seq (.block 1 (.block 2 (.seq (.opsd [(0, ⟨(some 24), .mv (.t 0), none, []⟩),
   (1, ⟨(some 25), .mv (.t 5), none, []⟩),
   (2, ⟨(some 26), .iad 1 (.t 24) (.t 25), none, []⟩),
   (3, ⟨(some 27), .ld none (.t 26), none, []⟩),
   (4, ⟨(some 28), .mv (.t 1), none, []⟩),
   (5, ⟨(some 29), .mv (.t 5), none, []⟩),
   (6, ⟨(some 30), .iad 1 (.t 28) (.t 29), none, []⟩),
   (7, ⟨(some 31), .ld none (.t 30), none, []⟩),
   (8, ⟨(some 32), .bin .lss (.t 27) (.t 31), none, []⟩),
   (9, ⟨(some 23), .mv (.t 32), none, []⟩)])
  (.cond (.t 23)
  (.seq (.ops [⟨(some 4), .mv (.c (.i .i64 (-1))), none, []⟩])
   (.ret))
  (.seq (.opsd [(0, ⟨(some 34), .mv (.t 0), none, []⟩),
    (1, ⟨(some 35), .mv (.t 5), none, []⟩),
    (2, ⟨(some 36), .iad 1 (.t 34) (.t 35), none, []⟩),
    (3, ⟨(some 37), .ld none (.t 36), none, []⟩),
    (4, ⟨(some 38), .mv (.t 1), none, []⟩),
    (5, ⟨(some 39), .mv (.t 5), none, []⟩),
    (6, ⟨(some 40), .iad 1 (.t 38) (.t 39), none, []⟩),
    (7, ⟨(some 41), .ld none (.t 40), none, []⟩),
    (8, ⟨(some 42), .bin .gtr (.t 37) (.t 41), none, []⟩),
    (9, ⟨(some 33), .mv (.t 42), none, []⟩)])
   (.cond (.t 33)
   (.seq (.ops [⟨(some 4), .mv (.c (.i .i64 1)), none, []⟩])
    (.ret))
   (.skip)))))))
  (.ops [⟨(some 21), .mv (.t 5), none, []⟩,
   ⟨(some 22), .bin .sub (.t 21) (.c (.i .i64 1)), none, []⟩,
   ⟨(some 5), .mv (.t 22), none, []⟩]))))))
  (.seq (.ops [⟨(some 4), .mv (.c (.i .i64 0)), none, []⟩])
  (.ret)))), [.t 4]⟩
def K_impl_natCmp (P : Program) (f : Nat) : Prop := ∀ m n : Nat, (limbs m).length ≤ 4096 → (limbs n).length ≤ 4096 → SC P f [ints (limbs m), ints (limbs n)] (.i .i64 (cmpN m n))
theorem t_impl_natCmp {P : Program} {f : Nat} (h : Has P f c_impl_natCmp) : K_impl_natCmp P f := by
  intro m n hm hn
  refine sc_go h (by simp) ?_
  simp -implicitDefEqProofs (disch := omega) only [↓walk, plain, List.length_map, List.getElem?_map, Option.map_some, Nat.reduceBEq, decT, decF, iteT, iteF, wrap_ok, Int.reduceToNat, Int.reduceLE, Int.reduceLT, Int.reduceAdd, Int.reduceSub, Int.reduceNeg, reduceIte, Nat.reduceEqDiff, Nat.reduceAdd, Nat.reduceSub, Nat.reduceMul, Nat.reduceLeDiff, Nat.reduceShiftRight, Nat.reduceMod, reduceCtorEq, ints, List.length_map]
  refine goC_dec (fun hl => ?_) (fun hl => ?_)
  · simp -implicitDefEqProofs (disch := omega) only [↓walk, plain, List.length_map, List.getElem?_map, Option.map_some, Nat.reduceBEq, decT, decF, iteT, iteF, wrap_ok, Int.reduceToNat, Int.reduceLE, Int.reduceLT, Int.reduceAdd, Int.reduceSub, Int.reduceNeg, reduceIte, Nat.reduceEqDiff, Nat.reduceAdd, Nat.reduceSub, Nat.reduceMul, Nat.reduceLeDiff, Nat.reduceShiftRight, Nat.reduceMod, reduceCtorEq]
    refine goC_dec (fun hl => ?_) (fun hl => ?_)
    · simp -implicitDefEqProofs (disch := omega) only [↓walk, plain, List.length_map, List.getElem?_map, Option.map_some, Nat.reduceBEq, decT, decF, iteT, iteF, wrap_ok, Int.reduceToNat, Int.reduceLE, Int.reduceLT, Int.reduceAdd, Int.reduceSub, Int.reduceNeg, reduceIte, Nat.reduceEqDiff, Nat.reduceAdd, Nat.reduceSub, Nat.reduceMul, Nat.reduceLeDiff, Nat.reduceShiftRight, Nat.reduceMod, reduceCtorEq]
      exact data_i (cmpN_lt (len_lt (by omega))).symm
    · simp -implicitDefEqProofs (disch := omega) only [↓walk, plain, List.length_map, List.getElem?_map, Option.map_some, Nat.reduceBEq, decT, decF, iteT, iteF, wrap_ok, Int.reduceToNat, Int.reduceLE, Int.reduceLT, Int.reduceAdd, Int.reduceSub, Int.reduceNeg, reduceIte, Nat.reduceEqDiff, Nat.reduceAdd, Nat.reduceSub, Nat.reduceMul, Nat.reduceLeDiff, Nat.reduceShiftRight, Nat.reduceMod, reduceCtorEq]
      exact data_i (cmpN_gt (len_lt (by omega))).symm
  · have hl : (limbs m).length = (limbs n).length := by omega
    simp -implicitDefEqProofs (disch := omega) only [↓walk, plain, List.length_map, List.getElem?_map, Option.map_some, Nat.reduceBEq, decT, decF, iteT, iteF, wrap_ok, Int.reduceToNat, Int.reduceLE, Int.reduceLT, Int.reduceAdd, Int.reduceSub, Int.reduceNeg, reduceIte, Nat.reduceEqDiff, Nat.reduceAdd, Nat.reduceSub, Nat.reduceMul, Nat.reduceLeDiff, Nat.reduceShiftRight, Nat.reduceMod, reduceCtorEq]
    refine go_loopm 8796092497968 (by first | rfl | (simp only [mods, modsL, modsD, optB]; rfl)) (fun k fr H n2 => k ≤ (limbs m).length ∧ fr 5 = .i .i64 (k - 1) ∧ (limbs m).drop k = (limbs n).drop k) (limbs m).length ?_ ?_
    · simp -implicitDefEqProofs (disch := omega) only [↓walk, plain, List.length_map, List.getElem?_map, Option.map_some, Nat.reduceBEq, decT, decF, iteT, iteF, wrap_ok, Int.reduceToNat, Int.reduceLE, Int.reduceLT, Int.reduceAdd, Int.reduceSub, Int.reduceNeg, reduceIte, Nat.reduceEqDiff, Nat.reduceAdd, Nat.reduceSub, Nat.reduceMul, Nat.reduceLeDiff, Nat.reduceShiftRight, Nat.reduceMod, reduceCtorEq]
      (repeat' first | refine And.intro ?_ ?_ | rfl | omega | assumption | exact trivial | (dsimp only; omega))
      rw [List.drop_length, hl, List.drop_length]
    · rintro k fr H n2 ⟨hk, f5, hd⟩
      simp -implicitDefEqProofs (disch := omega) only [↓walk, plain, List.length_map, List.getElem?_map, Option.map_some, Nat.reduceBEq, decT, decF, iteT, iteF, wrap_ok, Int.reduceToNat, Int.reduceLE, Int.reduceLT, Int.reduceAdd, Int.reduceSub, Int.reduceNeg, reduceIte, Nat.reduceEqDiff, Nat.reduceAdd, Nat.reduceSub, Nat.reduceMul, Nat.reduceLeDiff, Nat.reduceShiftRight, Nat.reduceMod, reduceCtorEq, f5]
      refine goC_dec (fun h0 => ?_) (fun h0 => ?_)
      · obtain ⟨a, ha⟩ := getc (xs := limbs m) (i := k - 1) (by omega)
        obtain ⟨b, hb⟩ := getc (xs := limbs n) (i := k - 1) (by omega)
        have e1 : ((k : Int) - 1) = ((k - 1 : Nat) : Int) := by omega
        have e2 : k - 1 + 1 = k := by omega
        simp -implicitDefEqProofs (disch := omega) only [↓walk, plain, List.length_map, List.getElem?_map, Option.map_some, Nat.reduceBEq, decT, decF, iteT, iteF, wrap_ok, Int.reduceToNat, Int.reduceLE, Int.reduceLT, Int.reduceAdd, Int.reduceSub, Int.reduceNeg, reduceIte, Nat.reduceEqDiff, Nat.reduceAdd, Nat.reduceSub, Nat.reduceMul, Nat.reduceLeDiff, Nat.reduceShiftRight, Nat.reduceMod, reduceCtorEq, f5, e1, List.getElem?_map, ha, hb, Option.map_some]
        refine goC_dec (fun h1 => ?_) (fun h1 => ?_)
        · simp -implicitDefEqProofs (disch := omega) only [↓walk, plain, List.length_map, List.getElem?_map, Option.map_some, Nat.reduceBEq, decT, decF, iteT, iteF, wrap_ok, Int.reduceToNat, Int.reduceLE, Int.reduceLT, Int.reduceAdd, Int.reduceSub, Int.reduceNeg, reduceIte, Nat.reduceEqDiff, Nat.reduceAdd, Nat.reduceSub, Nat.reduceMul, Nat.reduceLeDiff, Nat.reduceShiftRight, Nat.reduceMod, reduceCtorEq]
          exact data_i (cmpN_lt (cmp_limbs hl (by rw [e2]; exact hd) ha hb h1)).symm
        · simp -implicitDefEqProofs (disch := omega) only [↓walk, plain, List.length_map, List.getElem?_map, Option.map_some, Nat.reduceBEq, decT, decF, iteT, iteF, wrap_ok, Int.reduceToNat, Int.reduceLE, Int.reduceLT, Int.reduceAdd, Int.reduceSub, Int.reduceNeg, reduceIte, Nat.reduceEqDiff, Nat.reduceAdd, Nat.reduceSub, Nat.reduceMul, Nat.reduceLeDiff, Nat.reduceShiftRight, Nat.reduceMod, reduceCtorEq, f5, e1, List.getElem?_map, ha, hb, Option.map_some]
          refine goC_dec (fun h2 => ?_) (fun h2 => ?_)
          · simp -implicitDefEqProofs (disch := omega) only [↓walk, plain, List.length_map, List.getElem?_map, Option.map_some, Nat.reduceBEq, decT, decF, iteT, iteF, wrap_ok, Int.reduceToNat, Int.reduceLE, Int.reduceLT, Int.reduceAdd, Int.reduceSub, Int.reduceNeg, reduceIte, Nat.reduceEqDiff, Nat.reduceAdd, Nat.reduceSub, Nat.reduceMul, Nat.reduceLeDiff, Nat.reduceShiftRight, Nat.reduceMod, reduceCtorEq]
            exact data_i (cmpN_gt (cmp_limbs hl.symm (by rw [e2]; exact hd.symm) hb ha h2)).symm
          · simp -implicitDefEqProofs (disch := omega) only [↓walk, plain, List.length_map, List.getElem?_map, Option.map_some, Nat.reduceBEq, decT, decF, iteT, iteF, wrap_ok, Int.reduceToNat, Int.reduceLE, Int.reduceLT, Int.reduceAdd, Int.reduceSub, Int.reduceNeg, reduceIte, Nat.reduceEqDiff, Nat.reduceAdd, Nat.reduceSub, Nat.reduceMul, Nat.reduceLeDiff, Nat.reduceShiftRight, Nat.reduceMod, reduceCtorEq, f5, e1]
            refine ⟨k - 1, ?_⟩
            (repeat' first | refine And.intro ?_ ?_ | rfl | omega | assumption | exact trivial | (dsimp only; omega))
            rw [List.drop_eq_getElem_cons (l := limbs m) (by omega), List.drop_eq_getElem_cons (l := limbs n) (by omega), e2, hd]
            rw [List.getElem?_eq_getElem (by omega)] at ha hb
            have := Option.some.inj ha
            have := Option.some.inj hb
            congr 1; omega
      · simp -implicitDefEqProofs (disch := omega) only [↓walk, plain, List.length_map, List.getElem?_map, Option.map_some, Nat.reduceBEq, decT, decF, iteT, iteF, wrap_ok, Int.reduceToNat, Int.reduceLE, Int.reduceLT, Int.reduceAdd, Int.reduceSub, Int.reduceNeg, reduceIte, Nat.reduceEqDiff, Nat.reduceAdd, Nat.reduceSub, Nat.reduceMul, Nat.reduceLeDiff, Nat.reduceShiftRight, Nat.reduceMod, reduceCtorEq]
        have : k = 0 := by omega
        subst this
        simp only [List.drop_zero] at hd
        rw [limbs_inj hd]
        exact data_i cmpN_eq.symm
end Go.Am
/-! Walks: sums, differences, products, division by one limb. -/
namespace Go.Am
set_option linter.unusedVariables false
set_option linter.unusedSimpArgs false
set_option maxRecDepth 10000
set_option maxHeartbeats 4000000
theorem sum_norm {xs : List Int} {m n : Nat} (h : Dig xs) (hv : val xs = (m : Int) + n) (hl : xs.length = (limbs m).length) : xs = limbs (m + n) := by
  refine uniq' h (top_of_ge h fun hne => ?_) (by omega)
  rw [hl, hv]
  have : limbs m ≠ [] := by intro e; rw [e] at hl; exact hne (List.length_eq_zero_iff.1 hl)
  have := ge_of_top (limbs_dig m) (limbs_top m) this
  rw [val_limbs] at this; omega
theorem sum_norm1 {xs : List Int} {m n : Nat} (h : Dig xs) (hv : val xs + pw xs.length = (m : Int) + n) : xs ++ [1] = limbs (m + n) := by
  have hd : Dig (xs ++ [1]) := h.snoc (by omega) (by omega)
  have hv2 : val (xs ++ [1]) = val xs + pw xs.length := by rw [val_snoc]; omega
  refine uniq' hd (top_of_ge hd fun hne => ?_) (by omega)
  rw [hv2, List.length_append]
  simp only [List.length_cons, List.length_nil, Nat.zero_add, Nat.add_sub_cancel]
  have := h.nonneg; omega
theorem take_all {α : Type} {xs : List α} {i : Nat} (h : xs.length ≤ i) : xs.take i = xs := List.take_of_length_le h
theorem val_take_ge {xs : List Int} {i : Nat} (h : xs.length ≤ i) : val (xs.take (i + 1)) = val (xs.take i) := by rw [take_all h, take_all (by omega)]
/-- One step of a sum. -/
theorem add_step {ds xs ys : List Int} {i : Nat} {c a b s : Int} (hl : ds.length = i) (hv : val ds + c * pw i = val (xs.take i) + val (ys.take i)) (ha : xs[i]? = some a) (hb : val (ys.take (i + 1)) = val (ys.take i) + pw i * b) (c' : Int) (hs : s + 1000000000 * c' = a + b + c) : val (ds ++ [s]) + c' * pw (i + 1) = val (xs.take (i + 1)) + val (ys.take (i + 1)) := by
  rw [val_snoc, val_take ha, hb, hl, pw_succ]
  have : s = a + b + c - 1000000000 * c' := by omega
  subst this
  grind
/-- A list of integers under construction in an own block. -/
def LR (n n2 : Nat) (v : AV) (H : Heap) (xs : List Int) : Prop := ∃ T, n ≤ T ∧ T < n2 ∧ v = .rf T 0 xs.length ∧ H T = some (1, xs.map (.i .i64))
theorem LR.mk0 {n n2 T : Nat} {H : Heap} (h1 : n ≤ T) (h2 : T < n2) : LR n n2 (.rf T 0 0) (H.upd T (1, [])) [] := ⟨T, h1, h2, rfl, Heap.upd_self _ _ _⟩
theorem LR.snoc {n n2 T : Nat} {H : Heap} {ds : List Int} {a : Int} (h1 : n ≤ T) (h2 : T < n2) : LR n n2 (.rf T 0 (ds.length + 1)) (H.upd T (1, List.take ds.length (ds.map (.i .i64)) ++ [.i .i64 a])) (ds ++ [a]) := by
  refine ⟨T, h1, h2, by simp, ?_⟩
  rw [Heap.upd_self, List.take_of_length_le (by simp)]; simp
theorem LR.own {n n2 : Nat} {v : AV} {H : Heap} {xs : List Int} (h : LR n n2 v H xs) : OwnI n v H xs := by
  obtain ⟨T, h1, _, rfl, h2⟩ := h
  exact .inr ⟨T, _, h1, rfl, h2, by rw [List.take_of_length_le (by simp)]⟩
def c_impl_natAdd : AF := ⟨56, .seq (.ops [⟨(some 4), .mv (.c .nl), none, []⟩])
  (.seq (.seq (.ops [⟨(some 9), .mv (.t 0), none, []⟩,
   ⟨(some 10), .len (.t 9), none, []⟩,
   ⟨(some 11), .mv (.t 1), none, []⟩,
   ⟨(some 12), .len (.t 11), none, []⟩,
   ⟨(some 13), .bin .lss (.t 10) (.t 12), none, []⟩])
  (.cond (.t 13)
  (.ops [⟨(some 14), .mv (.t 1), none, []⟩,
    ⟨(some 15), .mv (.t 0), none, []⟩,
    ⟨(some 0), .mv (.t 14), none, []⟩,
    ⟨(some 1), .mv (.t 15), none, []⟩])
  (.skip)))
  (.seq (.ops [⟨(some 16), .mv (.t 0), none, []⟩,
   ⟨(some 17), .len (.t 16), none, []⟩,
   ⟨(some 18), .bin .add (.t 17) (.c (.i .i64 1)), none, []⟩,
   ⟨(some 19), .mks (.i .i64 0) 8 (.c (.i .i64 0)) (.t 18), none, []⟩,
   ⟨(some 5), .mv (.t 19), none, []⟩])
  (.seq (.ops [⟨(some 6), .mv (.c (.i .i64 0)), none, []⟩])
  (.seq (.seq (.ops [⟨(some 20), .mv (.t 0), none, []⟩,
   ⟨(some 21), .len (.t 20), none, []⟩,
   ⟨(some 22), .mv (.c (.i .i64 0)), none, []⟩])
  (.block 0 (.loop (.seq (.ops [⟨(some 23), .bin .lss (.t 22) (.t 21), none, []⟩])
  (.seq (.cond (.t 23)
  (.skip)
  (.exit 0))
  (.seq (.block 1 (.seq (.ops [⟨(some 24), .mv (.t 22), none, []⟩,
   ⟨(some 7), .mv (.t 24), none, []⟩])
  (.seq (.ops [⟨(some 25), .mv (.t 0), none, []⟩,
   ⟨(some 26), .mv (.t 7), none, []⟩,
   ⟨(some 27), .iad 1 (.t 25) (.t 26), none, []⟩,
   ⟨(some 28), .ld none (.t 27), none, []⟩,
   ⟨(some 29), .mv (.t 6), none, []⟩,
   ⟨(some 30), .bin .add (.t 28) (.t 29), none, []⟩,
   ⟨(some 8), .mv (.t 30), none, []⟩])
  (.seq (.seq (.ops [⟨(some 31), .mv (.t 7), none, []⟩,
   ⟨(some 32), .mv (.t 1), none, []⟩,
   ⟨(some 33), .len (.t 32), none, []⟩,
   ⟨(some 34), .bin .lss (.t 31) (.t 33), none, []⟩])
  (.cond (.t 34)
  (.ops [⟨(some 35), .mv (.t 8), none, []⟩,
    ⟨(some 36), .mv (.t 1), none, []⟩,
    ⟨(some 37), .mv (.t 7), none, []⟩,
    ⟨(some 38), .iad 1 (.t 36) (.t 37), none, []⟩,
    ⟨(some 39), .ld none (.t 38), none, []⟩,
    ⟨(some 40), .bin .add (.t 35) (.t 39), none, []⟩,
    ⟨(some 8), .mv (.t 40), none, []⟩])
  (.skip)))
  (.seq (.ops [⟨(some 6), .mv (.c (.i .i64 0)), none, []⟩])
  (.seq (.seq (.ops [⟨(some 41), .mv (.t 8), none, []⟩,
   ⟨(some 42), .bin .geq (.t 41) (.c (.i .i64 1000000000)), none, []⟩])
  (.cond (.t 42)
  (.seq (.ops [⟨(some 43), .mv (.t 8), none, []⟩,
    ⟨(some 44), .bin .sub (.t 43) (.c (.i .i64 1000000000)), none, []⟩,
    ⟨(some 8), .mv (.t 44), none, []⟩])
   (.ops [⟨(some 6), .mv (.c (.i .i64 1)), none, []⟩]))
  (.skip)))
  (.ops [⟨(some 45), .mv (.t 5), none, []⟩,
   ⟨(some 46), .mv (.t 8), none, []⟩,
   ⟨(some 47), .bsl (.i .i64 0) 1 [(0, (.t 46))], none, []⟩,
   ⟨(some 48), .app 1 8 (.t 45) (.t 47), none, []⟩,
   ⟨(some 5), .mv (.t 48), none, []⟩])))))))
  (.ops [⟨(some 49), .bin .add (.t 22) (.c (.i .i64 1)), none, []⟩,
   ⟨(some 22), .mv (.t 49), none, []⟩])))))))
  (.seq (.seq (.ops [⟨(some 50), .mv (.t 6), none, []⟩,
   ⟨(some 51), .bin .gtr (.t 50) (.c (.i .i64 0)), none, []⟩])
  (.cond (.t 51)
  (.ops [⟨(some 52), .mv (.t 5), none, []⟩,
    ⟨(some 53), .bsl (.i .i64 0) 1 [(0, (.c (.i .i64 1)))], none, []⟩,
    ⟨(some 54), .app 1 8 (.t 52) (.t 53), none, []⟩,
    ⟨(some 5), .mv (.t 54), none, []⟩])
  (.skip)))
  (.seq (.ops [⟨(some 55), .mv (.t 5), none, []⟩,
   ⟨(some 4), .mv (.t 55), none, []⟩])
  (.ret))))))), [.t 4]⟩
def K_impl_natAdd (P : Program) (f : Nat) : Prop := ∀ m n : Nat, (limbs m).length ≤ 4096 → (limbs n).length ≤ 4096 → OCI P f [ints (limbs m), ints (limbs n)] (limbs (m + n))
theorem t_impl_natAdd {P : Program} {f : Nat} (h : Has P f c_impl_natAdd) : K_impl_natAdd P f := by
  intro m0 n0 hm0 hn0 n
  refine mc_go h (by simp) ?_
  simp -implicitDefEqProofs (disch := omega) only [↓walk, plain, List.length_map, List.getElem?_map, Option.map_some, Nat.reduceBEq, iteT, iteF, wrap_ok, Int.reduceToNat, Int.reduceLE, Int.reduceLT, Int.reduceAdd, Int.reduceSub, Int.reduceNeg, reduceIte, Nat.reduceEqDiff, Nat.reduceAdd, Nat.reduceSub, Nat.reduceMul, Nat.reduceLeDiff, Nat.reduceShiftRight, Nat.reduceMod, reduceCtorEq, ints]
  refine goC_join 49155 (by first | rfl | (simp only [mods, modsL, modsD, optB]; rfl)) (fun fr H n' => ∃ p q : Nat, fr 0 = ints (limbs p) ∧ fr 1 = ints (limbs q) ∧ p + q = m0 + n0 ∧ (limbs q).length ≤ (limbs p).length ∧ (limbs p).length ≤ 4096 ∧ n ≤ n') (fun hl => ?_) (fun hl => ?_) ?_
  · simp -implicitDefEqProofs (disch := omega) only [↓walk, plain, List.length_map, List.getElem?_map, Option.map_some, Nat.reduceBEq, decT, decF, iteT, iteF, wrap_ok, Int.reduceToNat, Int.reduceLE, Int.reduceLT, Int.reduceAdd, Int.reduceSub, Int.reduceNeg, reduceIte, Nat.reduceEqDiff, Nat.reduceAdd, Nat.reduceSub, Nat.reduceMul, Nat.reduceLeDiff, Nat.reduceShiftRight, Nat.reduceMod, reduceCtorEq]
    exact ⟨n0, m0, rfl, rfl, by omega, by omega, by omega, by omega⟩
  · simp -implicitDefEqProofs (disch := omega) only [↓walk, plain, List.length_map, List.getElem?_map, Option.map_some, Nat.reduceBEq, decT, decF, iteT, iteF, wrap_ok, Int.reduceToNat, Int.reduceLE, Int.reduceLT, Int.reduceAdd, Int.reduceSub, Int.reduceNeg, reduceIte, Nat.reduceEqDiff, Nat.reduceAdd, Nat.reduceSub, Nat.reduceMul, Nat.reduceLeDiff, Nat.reduceShiftRight, Nat.reduceMod, reduceCtorEq]
    exact ⟨m0, n0, rfl, rfl, by omega, by omega, by omega, by omega⟩
  · rintro fr H n' ⟨p, q, f0, f1, hpq, hl, hp, hn⟩
    rw [← hpq]
    have dp := limbs_dig p
    have dq := limbs_dig q
    simp -implicitDefEqProofs (disch := omega) only [↓walk, plain, List.length_map, List.getElem?_map, Option.map_some, Nat.reduceBEq, iteT, iteF, wrap_ok, Int.reduceToNat, Int.reduceLE, Int.reduceLT, Int.reduceAdd, Int.reduceSub, Int.reduceNeg, reduceIte, Nat.reduceEqDiff, Nat.reduceAdd, Nat.reduceSub, Nat.reduceMul, Nat.reduceLeDiff, Nat.reduceShiftRight, Nat.reduceMod, reduceCtorEq, f0, f1, ints, maxB]
    refine go_loopm 1125899902648800 (by first | rfl | (simp only [mods, modsL, modsD, optB]; rfl)) (fun k fr2 H n2 => ∃ (ds : List Int) (c : Int), ds.length + k = (limbs p).length ∧ LR n n2 (fr2 5) H ds ∧ fr2 6 = .i .i64 c ∧ (c = 0 ∨ c = 1) ∧ fr2 22 = .i .i64 ds.length ∧ Dig ds ∧ val ds + c * pw ds.length = val ((limbs p).take ds.length) + val ((limbs q).take ds.length)) (limbs p).length ?_ ?_
    · simp -implicitDefEqProofs (disch := omega) only [↓walk, plain, List.length_map, List.getElem?_map, Option.map_some, Nat.reduceBEq, decT, decF, iteT, iteF, wrap_ok, Int.reduceToNat, Int.reduceLE, Int.reduceLT, Int.reduceAdd, Int.reduceSub, Int.reduceNeg, reduceIte, Nat.reduceEqDiff, Nat.reduceAdd, Nat.reduceSub, Nat.reduceMul, Nat.reduceLeDiff, Nat.reduceShiftRight, Nat.reduceMod, reduceCtorEq]
      exact ⟨[], 0, by simp, LR.mk0 (by omega) (by omega), rfl, .inl rfl, rfl, Dig.nil, by simp [val]⟩
    · rintro k fr2 H n2 ⟨ds, c, hk, ⟨T, hT, hT2, f5, hH⟩, f6, hc, f22, hds, hv⟩
      simp -implicitDefEqProofs (disch := omega) only [↓walk, plain, List.length_map, List.getElem?_map, Option.map_some, Nat.reduceBEq, iteT, iteF, wrap_ok, Int.reduceToNat, Int.reduceLE, Int.reduceLT, Int.reduceAdd, Int.reduceSub, Int.reduceNeg, reduceIte, Nat.reduceEqDiff, Nat.reduceAdd, Nat.reduceSub, Nat.reduceMul, Nat.reduceLeDiff, Nat.reduceShiftRight, Nat.reduceMod, reduceCtorEq, f22]
      refine goC_dec (fun h0 => ?_) (fun h0 => ?_)
      · obtain ⟨a, ha⟩ := getc (xs := limbs p) (i := ds.length) (by omega)
        have da := dp.at ha
        simp -implicitDefEqProofs (disch := omega) only [↓walk, plain, List.length_map, List.getElem?_map, Option.map_some, Nat.reduceBEq, iteT, iteF, wrap_ok, Int.reduceToNat, Int.reduceLE, Int.reduceLT, Int.reduceAdd, Int.reduceSub, Int.reduceNeg, reduceIte, Nat.reduceEqDiff, Nat.reduceAdd, Nat.reduceSub, Nat.reduceMul, Nat.reduceLeDiff, Nat.reduceShiftRight, Nat.reduceMod, reduceCtorEq, f5, f6, f22, f0, f1, ints, ha]
        refine goC_join 2164663517440 (by first | rfl | (simp only [mods, modsL, modsD, optB]; rfl)) (fun fr3 H' n3 => ∃ b : Int, 0 ≤ b ∧ b < 1000000000 ∧ val ((limbs q).take (ds.length + 1)) = val ((limbs q).take ds.length) + pw ds.length * b ∧ fr3 8 = .i .i64 (a + b + c) ∧ H' = H ∧ n2 ≤ n3) (fun h1 => ?_) (fun h1 => ?_) ?_
        · obtain ⟨b, hb⟩ := getc (xs := limbs q) (i := ds.length) (by omega)
          have db := dq.at hb
          have e1 : a + c + b = a + b + c := by omega
          simp -implicitDefEqProofs (disch := omega) only [↓walk, plain, List.length_map, List.getElem?_map, Option.map_some, Nat.reduceBEq, decT, decF, iteT, iteF, wrap_ok, Int.reduceToNat, Int.reduceLE, Int.reduceLT, Int.reduceAdd, Int.reduceSub, Int.reduceNeg, reduceIte, Nat.reduceEqDiff, Nat.reduceAdd, Nat.reduceSub, Nat.reduceMul, Nat.reduceLeDiff, Nat.reduceShiftRight, Nat.reduceMod, reduceCtorEq, f5, f6, f22, f0, f1, ints, hb, e1]
          exact ⟨b, by omega, by omega, val_take hb, rfl, by omega⟩
        · simp -implicitDefEqProofs (disch := omega) only [↓walk, plain, List.length_map, List.getElem?_map, Option.map_some, Nat.reduceBEq, decT, decF, iteT, iteF, wrap_ok, Int.reduceToNat, Int.reduceLE, Int.reduceLT, Int.reduceAdd, Int.reduceSub, Int.reduceNeg, reduceIte, Nat.reduceEqDiff, Nat.reduceAdd, Nat.reduceSub, Nat.reduceMul, Nat.reduceLeDiff, Nat.reduceShiftRight, Nat.reduceMod, reduceCtorEq]
          refine ⟨0, by omega, by omega, ?_, by rw [Int.add_zero], by omega⟩
          rw [val_take_ge (by omega)]; simp
        · rintro fr3 H' n3 ⟨b, hb0, hb1, hb, f8, rfl, hn3⟩
          simp -implicitDefEqProofs (disch := omega) only [↓walk, plain, List.length_map, List.getElem?_map, Option.map_some, Nat.reduceBEq, iteT, iteF, wrap_ok, Int.reduceToNat, Int.reduceLE, Int.reduceLT, Int.reduceAdd, Int.reduceSub, Int.reduceNeg, reduceIte, Nat.reduceEqDiff, Nat.reduceAdd, Nat.reduceSub, Nat.reduceMul, Nat.reduceLeDiff, Nat.reduceShiftRight, Nat.reduceMod, reduceCtorEq, f8]
          refine goC_dec (fun h2 => ?_) (fun h2 => ?_)
          · simp -implicitDefEqProofs (disch := omega) only [↓walk, plain, List.length_map, List.getElem?_map, Option.map_some, Nat.reduceBEq, decT, decF, iteT, iteF, wrap_ok, Int.reduceToNat, Int.reduceLE, Int.reduceLT, Int.reduceAdd, Int.reduceSub, Int.reduceNeg, reduceIte, Nat.reduceEqDiff, Nat.reduceAdd, Nat.reduceSub, Nat.reduceMul, Nat.reduceLeDiff, Nat.reduceShiftRight, Nat.reduceMod, reduceCtorEq, f8, f5, f22, hH, List.isEmpty_cons, maxB]
            have := add_step rfl hv ha hb (s := a + b + c - 1000000000) 1 (by omega)
            refine ⟨k - 1, by omega, ds ++ [a + b + c - 1000000000], 1, ?_, LR.snoc ?_ ?_, rfl, .inr rfl, ?_, hds.snoc (by omega) (by omega), ?_⟩
            · simp; omega
            · omega
            · omega
            · simp
            · simpa using this
          · simp -implicitDefEqProofs (disch := omega) only [↓walk, plain, List.length_map, List.getElem?_map, Option.map_some, Nat.reduceBEq, decT, decF, iteT, iteF, wrap_ok, Int.reduceToNat, Int.reduceLE, Int.reduceLT, Int.reduceAdd, Int.reduceSub, Int.reduceNeg, reduceIte, Nat.reduceEqDiff, Nat.reduceAdd, Nat.reduceSub, Nat.reduceMul, Nat.reduceLeDiff, Nat.reduceShiftRight, Nat.reduceMod, reduceCtorEq, f8, f5, f22, hH, List.isEmpty_cons, maxB]
            have := add_step rfl hv ha hb (s := a + b + c) 0 (by omega)
            refine ⟨k - 1, by omega, ds ++ [a + b + c], 0, ?_, LR.snoc ?_ ?_, rfl, .inl rfl, ?_, hds.snoc (by omega) (by omega), ?_⟩
            · simp; omega
            · omega
            · omega
            · simp
            · simpa using this
      · simp -implicitDefEqProofs (disch := omega) only [↓walk, plain, List.length_map, List.getElem?_map, Option.map_some, Nat.reduceBEq, decT, decF, iteT, iteF, wrap_ok, Int.reduceToNat, Int.reduceLE, Int.reduceLT, Int.reduceAdd, Int.reduceSub, Int.reduceNeg, reduceIte, Nat.reduceEqDiff, Nat.reduceAdd, Nat.reduceSub, Nat.reduceMul, Nat.reduceLeDiff, Nat.reduceShiftRight, Nat.reduceMod, reduceCtorEq, f6]
        have hk0 : k = 0 := by omega
        subst hk0
        rw [take_all (by omega), take_all (by omega), val_limbs, val_limbs] at hv
        refine goC_dec (fun h1 => ?_) (fun h1 => ?_)
        · simp -implicitDefEqProofs (disch := omega) only [↓walk, plain, List.length_map, List.getElem?_map, Option.map_some, Nat.reduceBEq, decT, decF, iteT, iteF, wrap_ok, Int.reduceToNat, Int.reduceLE, Int.reduceLT, Int.reduceAdd, Int.reduceSub, Int.reduceNeg, reduceIte, Nat.reduceEqDiff, Nat.reduceAdd, Nat.reduceSub, Nat.reduceMul, Nat.reduceLeDiff, Nat.reduceShiftRight, Nat.reduceMod, reduceCtorEq, f5, hH, List.isEmpty_cons, maxB]
          have hc1 : c = 1 := by omega
          subst hc1
          have := sum_norm1 (xs := ds) (m := p) (n := q) hds (by omega)
          rw [← this]
          exact (LR.snoc (n2 := n2 + 999) (by omega) (by omega)).own
        · simp -implicitDefEqProofs (disch := omega) only [↓walk, plain, List.length_map, List.getElem?_map, Option.map_some, Nat.reduceBEq, decT, decF, iteT, iteF, wrap_ok, Int.reduceToNat, Int.reduceLE, Int.reduceLT, Int.reduceAdd, Int.reduceSub, Int.reduceNeg, reduceIte, Nat.reduceEqDiff, Nat.reduceAdd, Nat.reduceSub, Nat.reduceMul, Nat.reduceLeDiff, Nat.reduceShiftRight, Nat.reduceMod, reduceCtorEq, f5]
          have hc1 : c = 0 := by omega
          subst hc1
          have := sum_norm (xs := ds) (m := p) (n := q) hds (by omega) (by omega)
          rw [← this]
          exact LR.own ⟨T, hT, hT2, rfl, hH⟩
end Go.Am
