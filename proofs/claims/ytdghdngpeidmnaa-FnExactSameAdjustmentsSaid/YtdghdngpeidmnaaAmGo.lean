/-
  A part of the proof that the law FnExactSameAdjustments holds (abstract machine, walks, or the join). No conditions.
-/
import Derived.Test.YtdghdngpeidmnaaAmLib
/-! The walk, for the simplifier: what is still to be done is data. -/
namespace Go.Am
set_option linter.unusedVariables false

/-- What is still to be done behind a piece of code. -/
inductive KF where
  | seq (b : AC)
  | blk (id : Nat)
  | lp (J : St → Prop)

def runK (P : Program) : List KF → (AEx → St → Prop) → AEx → St → Prop
  | [], Q => Q
  | .seq b :: r, Q => fun e σ => match e with
    | .normal => awp P b (runK P r Q) σ
    | .exit id => runK P r Q (.exit id) σ
    | .ret => runK P r Q .ret σ
  | .blk id :: r, Q => fun e σ => match e with
    | .normal => runK P r Q .normal σ
    | .exit id' => if id' = id then runK P r Q .normal σ else runK P r Q (.exit id') σ
    | .ret => runK P r Q .ret σ
  | .lp J :: r, Q => fun e σ => match e with
    | .normal => J σ
    | .exit id => runK P r Q (.exit id) σ
    | .ret => runK P r Q .ret σ

/-- Code, and what stands behind it. -/
def go (P : Program) (c : AC) (ks : List KF) (Q : AEx → St → Prop) (σ : St) : Prop := awp P c (runK P ks Q) σ

def goE (P : Program) (e : AEx) (ks : List KF) (Q : AEx → St → Prop) (σ : St) : Prop := runK P ks Q e σ

/-- Instructions in the order of the text. -/
def goO (P : Program) (l : List AI) (tok : Nat) (ks : List KF) (Q : AEx → St → Prop) (σ : St) : Prop := awpOps P l tok σ (runK P ks Q .normal)

/-- Instructions of a region that draws. -/
def goD (P : Program) (l : List (Nat × AI)) (n0 : Nat) (ks : List KF) (Q : AEx → St → Prop) (σ : St) : Prop := awpD P n0 l σ (runK P ks Q .normal)

/-- A test. -/
def goC (P : Program) (v : AV) (x y : AC) (ks : List KF) (Q : AEx → St → Prop) (σ : St) : Prop :=
  match v with
  | .b true => go P x ks Q σ
  | .b false => go P y ks Q σ
  | _ => False

/-- What stands behind an instruction. -/
inductive RT where
  | o (l : List AI) (tok : Nat)
  | d (l : List (Nat × AI)) (n0 : Nat)

def goR (P : Program) (r : RT) (ks : List KF) (Q : AEx → St → Prop) (σ : St) : Prop :=
  match r with
  | .o l tok => goO P l tok ks Q σ
  | .d l n0 => goD P l n0 ks Q σ

/-- One instruction. -/
def goI (P : Program) (i : AI) (tok : Nat) (r : RT) (ks : List KF) (Q : AEx → St → Prop) (σ : St) : Prop := awpX P i tok σ (goR P r ks Q)

/-- A guard. -/
def goG (P : Program) (v : AV) (want : Bool) (i : AI) (tok : Nat) (r : RT) (ks : List KF) (Q : AEx → St → Prop) (σ : St) : Prop :=
  match v with
  | .b x => if x = want then goI P i tok r ks Q σ else goR P r ks Q ⟨σ.fr.put i.d .top, σ.H, σ.n⟩
  | _ => False

/-- What an operation gave. -/
def goV (P : Program) (res : Option (AV × Heap)) (fl : List Nat) (d : Option Nat) (r : RT) (ks : List KF) (Q : AEx → St → Prop) (σ : St) : Prop :=
  match res with
  | some (v, H') => (∀ s ∈ fl, tokKept σ.H H' (σ.fr s)) ∧ goR P r ks Q ⟨σ.fr.put d v, H', σ.n⟩
  | none => False

/-- A call. -/
def goCall (P : Program) (raw : Bool) (f : Nat) (args : List AV) (d : Option Nat) (fl : List Nat) (r : RT) (ks : List KF) (Q : AEx → St → Prop) (σ : St) : Prop :=
  awpC P raw f args d fl σ (goR P r ks Q)

def goCallv (P : Program) (raw : Bool) (v : AV) (args : List AV) (d : Option Nat) (fl : List Nat) (r : RT) (ks : List KF) (Q : AEx → St → Prop) (σ : St) : Prop :=
  match v with
  | .fn g caps => goCall P raw g (args ++ caps) d fl r ks Q σ
  | _ => False

section
variable {P : Program} {ks : List KF} {Q : AEx → St → Prop} {σ : St} {r : RT} {tok n0 : Nat} {i : AI}

theorem go_skip : go P .skip ks Q σ = goE P .normal ks Q σ := rfl
theorem go_ops {l : List AI} : go P (.ops l) ks Q σ = goO P l σ.n ks Q ⟨σ.fr, σ.H, σ.n + l.length⟩ := rfl
theorem go_opsd {l : List (Nat × AI)} : go P (.opsd l) ks Q σ = goD P l σ.n ks Q ⟨σ.fr, σ.H, σ.n + l.length⟩ := rfl
theorem go_seq {a b : AC} : go P (.seq a b) ks Q σ = go P a (.seq b :: ks) Q σ := by
  unfold go
  simp only [awp]
  congr
theorem go_cond {c : AO} {x y : AC} : go P (.cond c x y) ks Q σ = goC P (c.ev σ.fr) x y ks Q σ := by
  unfold go goC
  simp only [awp]
  cases c.ev σ.fr with
  | b q => cases q <;> rfl
  | _ => rfl
theorem go_block {id : Nat} {x : AC} : go P (.block id x) ks Q σ = go P x (.blk id :: ks) Q σ := by
  unfold go
  simp only [awp]
  congr
theorem go_exit {id : Nat} : go P (.exit id) ks Q σ = goE P (.exit id) ks Q σ := rfl
theorem go_ret : go P .ret ks Q σ = goE P .ret ks Q σ := rfl
theorem goE_nil {e : AEx} : goE P e [] Q σ = Q e σ := rfl
theorem goE_seq {b : AC} : goE P .normal (.seq b :: ks) Q σ = go P b ks Q σ := rfl
theorem goE_seq_exit {b : AC} {id : Nat} : goE P (.exit id) (.seq b :: ks) Q σ = goE P (.exit id) ks Q σ := rfl
theorem goE_seq_ret {b : AC} : goE P .ret (.seq b :: ks) Q σ = goE P .ret ks Q σ := rfl
theorem goE_blk {id : Nat} : goE P .normal (.blk id :: ks) Q σ = goE P .normal ks Q σ := rfl
theorem goE_blk_ret {id : Nat} : goE P .ret (.blk id :: ks) Q σ = goE P .ret ks Q σ := rfl
theorem goE_blk_exit {id id' : Nat} : goE P (.exit id') (.blk id :: ks) Q σ = if id' = id then goE P .normal ks Q σ else goE P (.exit id') ks Q σ := rfl
theorem goE_lp {J : St → Prop} : goE P .normal (.lp J :: ks) Q σ = J σ := rfl
theorem goE_lp_exit {J : St → Prop} {id : Nat} : goE P (.exit id) (.lp J :: ks) Q σ = goE P (.exit id) ks Q σ := rfl
theorem goE_lp_ret {J : St → Prop} : goE P .ret (.lp J :: ks) Q σ = goE P .ret ks Q σ := rfl
theorem goO_nil : goO P [] tok ks Q σ = goE P .normal ks Q σ := rfl
theorem goD_nil : goD P [] n0 ks Q σ = goE P .normal ks Q σ := rfl
theorem goR_o {l : List AI} : goR P (.o l tok) ks Q σ = goO P l tok ks Q σ := rfl
theorem goR_d {l : List (Nat × AI)} : goR P (.d l n0) ks Q σ = goD P l n0 ks Q σ := rfl
theorem goO_cons {d : Option Nat} {op : AOp} {fl : List Nat} {l : List AI} : goO P (⟨d, op, none, fl⟩ :: l) tok ks Q σ = goI P ⟨d, op, none, fl⟩ tok (.o l (tok + 1)) ks Q σ := rfl
theorem goO_cons_g {d : Option Nat} {op : AOp} {fl : List Nat} {l : List AI} {s : Nat} {b : Bool} : goO P (⟨d, op, some (s, b), fl⟩ :: l) tok ks Q σ = goG P (σ.fr s) b ⟨d, op, none, fl⟩ tok (.o l (tok + 1)) ks Q σ := by
  unfold goO goG goI
  simp only [awpOps, awpI]
  cases σ.fr s <;> rfl
theorem goD_cons {d : Option Nat} {op : AOp} {fl : List Nat} {k : Nat} {l : List (Nat × AI)} : goD P ((k, ⟨d, op, none, fl⟩) :: l) n0 ks Q σ = goI P ⟨d, op, none, fl⟩ (n0 + k) (.d l n0) ks Q σ := rfl
theorem goD_cons_g {d : Option Nat} {op : AOp} {fl : List Nat} {k : Nat} {l : List (Nat × AI)} {s : Nat} {b : Bool} : goD P ((k, ⟨d, op, some (s, b), fl⟩) :: l) n0 ks Q σ = goG P (σ.fr s) b ⟨d, op, none, fl⟩ (n0 + k) (.d l n0) ks Q σ := by
  unfold goD goG goI
  simp only [awpD, awpI]
  cases σ.fr s <;> rfl
theorem goG_b {x want : Bool} : goG P (.b x) want i tok r ks Q σ = if x = want then goI P i tok r ks Q σ else goR P r ks Q ⟨σ.fr.put i.d .top, σ.H, σ.n⟩ := rfl
theorem goG_tt : goG P (.b true) true i tok r ks Q σ = goI P i tok r ks Q σ := rfl
theorem goG_ff : goG P (.b false) false i tok r ks Q σ = goI P i tok r ks Q σ := rfl
theorem goG_tf {d : Option Nat} {op : AOp} {g : Option (Nat × Bool)} {fl : List Nat} : goG P (.b true) false ⟨d, op, g, fl⟩ tok r ks Q σ = goR P r ks Q ⟨σ.fr.put d .top, σ.H, σ.n⟩ := rfl
theorem goG_ft {d : Option Nat} {op : AOp} {g : Option (Nat × Bool)} {fl : List Nat} : goG P (.b false) true ⟨d, op, g, fl⟩ tok r ks Q σ = goR P r ks Q ⟨σ.fr.put d .top, σ.H, σ.n⟩ := rfl
theorem goC_t {x y : AC} : goC P (.b true) x y ks Q σ = go P x ks Q σ := rfl
theorem goC_f {x y : AC} : goC P (.b false) x y ks Q σ = go P y ks Q σ := rfl
theorem goV_some {v : AV} {H' : Heap} {d : Option Nat} : goV P (some (v, H')) [] d r ks Q σ = goR P r ks Q ⟨σ.fr.put d v, H', σ.n⟩ := by
  simp [goV]
theorem goV_some_fl {v : AV} {H' : Heap} {fl : List Nat} {d : Option Nat} : goV P (some (v, H')) fl d r ks Q σ = ((∀ s ∈ fl, tokKept σ.H H' (σ.fr s)) ∧ goR P r ks Q ⟨σ.fr.put d v, H', σ.n⟩) := rfl
theorem goI_call {d : Option Nat} {raw : Bool} {f : Nat} {args : List AO} {g : Option (Nat × Bool)} {fl : List Nat} : goI P ⟨d, .call raw f args, g, fl⟩ tok r ks Q σ = goCall P raw f (args.map (·.ev σ.fr)) d fl r ks Q σ := rfl
theorem goI_callv {d : Option Nat} {raw : Bool} {t : Nat} {args : List AO} {g : Option (Nat × Bool)} {fl : List Nat} : goI P ⟨d, .callv raw t args, g, fl⟩ tok r ks Q σ = goCallv P raw (σ.fr t) (args.map (·.ev σ.fr)) d fl r ks Q σ := by
  unfold goI goCallv
  simp only [awpX]
  cases σ.fr t <;> rfl
theorem goCallv_fn {d : Option Nat} {raw : Bool} {f : Nat} {caps args : List AV} {fl : List Nat} : goCallv P raw (.fn f caps) args d fl r ks Q σ = goCall P raw f (args ++ caps) d fl r ks Q σ := rfl
section ops
variable {d : Option Nat} {g : Option (Nat × Bool)} {fl : List Nat}
theorem goI_mv {x : AO} : goI P ⟨d, .mv x, g, fl⟩ tok r ks Q σ = goV P (some (x.ev σ.fr, σ.H)) fl d r ks Q σ := rfl
theorem goI_pick {c a b : AO} : goI P ⟨d, .pick c a b, g, fl⟩ tok r ks Q σ = goV P (AOp.run σ.fr σ.H tok (.pick c a b)) fl d r ks Q σ := rfl
theorem goI_new {z : AV} : goI P ⟨d, .new z, g, fl⟩ tok r ks Q σ = goV P (AOp.run σ.fr σ.H tok (.new z)) fl d r ks Q σ := rfl
theorem goI_box {x : AO} : goI P ⟨d, .box x, g, fl⟩ tok r ks Q σ = goV P (AOp.run σ.fr σ.H tok (.box x)) fl d r ks Q σ := rfl
theorem goI_bld {z : List AV} {ps : List (Nat × Nat × AO)} : goI P ⟨d, .bld z ps, g, fl⟩ tok r ks Q σ = goV P (AOp.run σ.fr σ.H tok (.bld z ps)) fl d r ks Q σ := rfl
theorem goI_bsl {z : AV} {m : Nat} {ps : List (Nat × AO)} : goI P ⟨d, .bsl z m ps, g, fl⟩ tok r ks Q σ = goV P (AOp.run σ.fr σ.H tok (.bsl z m ps)) fl d r ks Q σ := rfl
theorem goI_ld {s : Option Nat} {a : AO} : goI P ⟨d, .ld s a, g, fl⟩ tok r ks Q σ = goV P (AOp.run σ.fr σ.H tok (.ld s a)) fl d r ks Q σ := rfl
theorem goI_st {s : Option Nat} {a v : AO} : goI P ⟨d, .st s a v, g, fl⟩ tok r ks Q σ = goV P (AOp.run σ.fr σ.H tok (.st s a v)) fl d r ks Q σ := rfl
theorem goI_nck {x : AO} : goI P ⟨d, .nck x, g, fl⟩ tok r ks Q σ = goV P (AOp.run σ.fr σ.H tok (.nck x)) fl d r ks Q σ := rfl
theorem goI_fad {o : Nat} {a : AO} : goI P ⟨d, .fad o a, g, fl⟩ tok r ks Q σ = goV P (AOp.run σ.fr σ.H tok (.fad o a)) fl d r ks Q σ := rfl
theorem goI_fld {s : Option Nat} {o : Nat} {x : AO} : goI P ⟨d, .fld s o x, g, fl⟩ tok r ks Q σ = goV P (AOp.run σ.fr σ.H tok (.fld s o x)) fl d r ks Q σ := rfl
theorem goI_iad {z : Nat} {x j : AO} : goI P ⟨d, .iad z x j, g, fl⟩ tok r ks Q σ = goV P (AOp.run σ.fr σ.H tok (.iad z x j)) fl d r ks Q σ := rfl
theorem goI_aad {m z : Nat} {x j : AO} : goI P ⟨d, .aad m z x j, g, fl⟩ tok r ks Q σ = goV P (AOp.run σ.fr σ.H tok (.aad m z x j)) fl d r ks Q σ := rfl
theorem goI_sidx {x j : AO} : goI P ⟨d, .sidx x j, g, fl⟩ tok r ks Q σ = goV P (AOp.run σ.fr σ.H tok (.sidx x j)) fl d r ks Q σ := rfl
theorem goI_bin {op : BinOp} {x y : AO} : goI P ⟨d, .bin op x y, g, fl⟩ tok r ks Q σ = goV P (AOp.run σ.fr σ.H tok (.bin op x y)) fl d r ks Q σ := rfl
theorem goI_beq {ne : Bool} {x y : AO} : goI P ⟨d, .beq ne x y, g, fl⟩ tok r ks Q σ = goV P (AOp.run σ.fr σ.H tok (.beq ne x y)) fl d r ks Q σ := rfl
theorem goI_not {x : AO} : goI P ⟨d, .not x, g, fl⟩ tok r ks Q σ = goV P (AOp.run σ.fr σ.H tok (.not x)) fl d r ks Q σ := rfl
theorem goI_neg {x : AO} : goI P ⟨d, .neg x, g, fl⟩ tok r ks Q σ = goV P (AOp.run σ.fr σ.H tok (.neg x)) fl d r ks Q σ := rfl
theorem goI_cvt {k : IntKind} {x : AO} : goI P ⟨d, .cvt k x, g, fl⟩ tok r ks Q σ = goV P (AOp.run σ.fr σ.H tok (.cvt k x)) fl d r ks Q σ := rfl
theorem goI_ext {j : Nat} {x : AO} : goI P ⟨d, .ext j x, g, fl⟩ tok r ks Q σ = goV P (AOp.run σ.fr σ.H tok (.ext j x)) fl d r ks Q σ := rfl
theorem goI_mkf {f : Nat} {l : List AO} : goI P ⟨d, .mkf f l, g, fl⟩ tok r ks Q σ = goV P (some (.fn f (l.map (·.ev σ.fr)), σ.H)) fl d r ks Q σ := rfl
theorem goI_mks {z : AV} {b : Nat} {l c : AO} : goI P ⟨d, .mks z b l c, g, fl⟩ tok r ks Q σ = goV P (AOp.run σ.fr σ.H tok (.mks z b l c)) fl d r ks Q σ := rfl
theorem goI_slc {z : Nat} {x : AO} {l h : Option AO} : goI P ⟨d, .slc z x l h, g, fl⟩ tok r ks Q σ = goV P (AOp.run σ.fr σ.H tok (.slc z x l h)) fl d r ks Q σ := rfl
theorem goI_len {x : AO} : goI P ⟨d, .len x, g, fl⟩ tok r ks Q σ = goV P (AOp.run σ.fr σ.H tok (.len x)) fl d r ks Q σ := rfl
theorem goI_slen {x : AO} : goI P ⟨d, .slen x, g, fl⟩ tok r ks Q σ = goV P (AOp.run σ.fr σ.H tok (.slen x)) fl d r ks Q σ := rfl
theorem goI_app {z b : Nat} {x y : AO} : goI P ⟨d, .app z b x y, g, fl⟩ tok r ks Q σ = goV P (AOp.run σ.fr σ.H tok (.app z b x y)) fl d r ks Q σ := rfl
end ops

/-- A loop: what holds at the top of each round, with a measure. -/
theorem go_loop {x : AC} (I : Nat → St → Prop) (m : Nat) (h0 : I m σ) (h : ∀ k σ', I k σ' → go P x (.lp (fun σ'' => ∃ k', k' < k ∧ I k' σ'') :: ks) Q σ') : go P (.loop x) ks Q σ := by
  refine ⟨I, m, h0, fun k σ' hI => awp_mono (fun e σ'' hq => ?_) (h k σ' hI)⟩
  cases e <;> exact hq

theorem goCall_dc {f : Nat} {args : List AV} {v : AV} {d : Option Nat} {fl : List Nat} (h : DC P f args v) (ha : ∀ x ∈ args, Dat x) (hk : goR P r ks Q ⟨σ.fr.put d v, σ.H, σ.n⟩) : goCall P false f args d fl r ks Q σ :=
  awpC_dc h ha hk
end

theorem pc_go {P : Program} {f : Nat} {N : Nat} {c : AC} {res : List AR} (h : Has P f ⟨N, c, res⟩) {args : List AV} {R : Nat → AV} {k : Nat} {U : Prop} (hl : args.length ≤ N)
    (hx : go P c [] (Fin res (Data R k U)) ⟨frOf args, noHeap, 0⟩) : PC P f args R k U := pc_of h hl hx

theorem sc_go {P : Program} {f : Nat} {N : Nat} {c : AC} {res : List AR} (h : Has P f ⟨N, c, res⟩) {args : List AV} {v : AV} (hl : args.length ≤ N)
    (hx : go P c [] (Fin res (Data (fun _ => v) 0 False)) ⟨frOf args, noHeap, 0⟩) : SC P f args v := pc_of h hl hx

theorem dc_go {P : Program} {f : Nat} {N : Nat} {c : AC} {res : List AR} (h : Has P f ⟨N, c, res⟩) {args : List AV} {v : AV} (hl : args.length ≤ N)
    (hx : go P c [] (Fin res (Data (fun _ => v) 0 True)) ⟨frOf args, noHeap, 0⟩) : DC P f args v := pc_of h hl hx

def finK (vs : Option (List AV)) (Q : AV → Heap → Nat → Prop) (H : Heap) (n : Nat) : Prop :=
  match vs with
  | some vs => Q (one vs) H n
  | none => False

theorem fin_ret {res : List AR} {Q : AV → Heap → Nat → Prop} {σ : St} : Fin res Q .ret σ = finK (AR.gets σ res) Q σ.H σ.n := by
  unfold Fin finK
  cases AR.gets σ res <;> simp
theorem fin_normal {res : List AR} {Q : AV → Heap → Nat → Prop} {σ : St} : Fin res Q .normal σ = finK (AR.gets σ res) Q σ.H σ.n := by
  unfold Fin finK
  cases AR.gets σ res <;> simp
theorem finK_some {vs : List AV} {Q : AV → Heap → Nat → Prop} {H : Heap} {n : Nat} : finK (some vs) Q H n = Q (one vs) H n := rfl

end Go.Am
