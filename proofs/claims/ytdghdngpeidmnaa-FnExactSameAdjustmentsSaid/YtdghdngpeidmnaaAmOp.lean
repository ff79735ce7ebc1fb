/-
  A part of the proof that the law FnExactSameAdjustments holds (abstract machine, walks, or the join). No conditions.
-/
import Derived.Test.YtdghdngpeidmnaaAmOps7
/-! Every operation that is no call of a function: the machine does what the abstract machine says. -/
namespace Go.Am
set_option linter.unusedVariables false
set_option linter.unusedSimpArgs false

section ops
variable {P : Program} {rw : Nat → Bool} {rv : Bool} {E : Entry} {β : Bt} {N : Nat} {a : Act} {w w' : World} {σ : St} {tok : Nat} {x : AV} {H' : Heap} {o : Oper}

theorem map_some {α γ : Type} {f : α → γ} {o : Option α} {c : γ} (h : o.map f = some c) : ∃ b, o = some b ∧ f b = c := by
  cases o with
  | none => cases h
  | some b => cases h; exact ⟨b, rfl, rfl⟩

theorem op_sound (h : Sim E β N a w σ) (hf : β tok = none) (htok : tok < σ.n) (hE : E.n ≤ tok) {aop : AOp} (hc : cop1 P rw rv o.op = some aop) (hr : aop.run σ.fr σ.H tok = some (x, H')) :
    Res E β w σ tok ((execOp a.eval o).run P w) x H' := by
  unfold cop1 at hc
  split at hc
  · rename_i y ho
    obtain ⟨z, hz, rfl⟩ := map_some hc
    cases hr; exact op_mv h (.inl ho) hz
  · rename_i y ho
    obtain ⟨z, hz, rfl⟩ := map_some hc
    cases hr; exact op_mv h (.inr ho) hz
  · rename_i c y z ho
    split at hc
    · rename_i h1 h2 h3
      cases hc
      simp only [AOp.run] at hr
      split at hr
      · rename_i q hq
        cases hr; exact op_pick h ho h1 h2 h3 hq
      · cases hr
    · cases hc
  · rename_i t ho
    obtain ⟨z, hz, rfl⟩ := map_some hc
    cases hr; exact op_new h hf htok hE ho hz
  · rename_i t y ho
    obtain ⟨z, hz, rfl⟩ := map_some hc
    simp only [AOp.run] at hr
    split at hr
    · cases hr
    · rename_i hne
      cases hr
      exact op_box h hf htok hE ho hz hne
  · rename_i t ps ho
    split at hc
    · rename_i fs z ht hz
      split at hc
      · rename_i hall
        obtain ⟨qs, hq, rfl⟩ := map_some hc
        simp only [AOp.run] at hr
        obtain ⟨ds, hd, he⟩ := map_some hr
        cases he; exact op_bldS h ho ht hz hall hq hd
      · cases hc
    · rename_i n e z ht hz
      split at hc
      · rename_i b s hs
        obtain ⟨qs, hq, rfl⟩ := map_some hc
        simp only [AOp.run] at hr
        obtain ⟨ds, hd, he⟩ := map_some hr
        cases he; exact op_bldA h ho ht hz hs hq hd
      · cases hc
    · cases hc
  · rename_i t n ps ho
    split at hc
    · rename_i e ht
      split at hc
      · rename_i z inf hz hi
        split at hc
        · rename_i hlim
          obtain ⟨qs, hq, rfl⟩ := map_some hc
          simp only [AOp.run] at hr
          obtain ⟨ds, hd, he⟩ := map_some hr
          cases he; exact op_bsl h hf htok hE ho ht hz hi hlim hq hd
        · cases hc
      · cases hc
    · cases hc
  · rename_i t y ho
    split at hc
    · rename_i s z hs hz
      cases hc
      simp only [AOp.run] at hr
      split at hr
      · rename_i e of hl
        obtain ⟨v, hp, he⟩ := map_some hr
        cases he; exact op_ld h ho hs hz hl hp
      · cases hr
    · cases hc
  · rename_i t y z ho
    split at hc
    · rename_i s y' z' hs hy hz
      cases hc
      simp only [AOp.run] at hr
      split at hr
      · rename_i u i of hyv
        split at hr
        · rename_i zz es hes
          split at hr
          · rename_i e he
            split at hr
            · rename_i hcd
              cases hr
              exact op_st h ho hs hy hz hyv hes he hcd.1 hcd.2.1 hcd.2.2
            · cases hr
          · cases hr
        · cases hr
      · cases hr
    · cases hc
  · rename_i y ho
    obtain ⟨z, hz, rfl⟩ := map_some hc
    simp only [AOp.run] at hr
    split at hr
    · rename_i e k he
      cases hr
      have := op_nck (P := P) (tok := tok) h ho hz (.inl ⟨e, k, he⟩)
      rwa [he] at this
    · rename_i t i k he
      cases hr
      have := op_nck (P := P) (tok := tok) h ho hz (.inr ⟨t, i, k, he⟩)
      rwa [he] at this
    · cases hr
  · rename_i op t y z t2 ho
    split at hc
    · rename_i y' z' hy hz
      split at hc
      · rename_i hb
        split at hc
        · cases hc
          simp only [AOp.run] at hr
          split at hr
          · rename_i p q hp hq
            cases hr; exact op_beq (ne := false) h ho hb hy hz hp hq
          · cases hr
        · cases hc
          simp only [AOp.run] at hr
          split at hr
          · rename_i p q hp hq
            cases hr; exact op_beq (ne := true) h ho hb hy hz hp hq
          · cases hr
        · cases hc
      · split at hc
        · cases hc
          simp only [AOp.run] at hr
          obtain ⟨v, hv, he⟩ := map_some hr
          cases he; exact op_bin h ho hy hz hv
        · cases hc
    · cases hc
  · rename_i t y ho
    obtain ⟨z, hz, rfl⟩ := map_some hc
    simp only [AOp.run] at hr
    split at hr
    · rename_i b hb
      cases hr; exact op_not h ho hz hb
    · cases hr
  · rename_i t y ho
    obtain ⟨z, hz, rfl⟩ := map_some hc
    simp only [AOp.run] at hr
    split at hr
    · rename_i k n hb
      cases hr; exact op_neg h ho hz hb
    · cases hr
  · rename_i s d y ho
    split at hc
    · rename_i k0 k hs hd
      obtain ⟨z, hz, rfl⟩ := map_some hc
      simp only [AOp.run] at hr
      split at hr
      · rename_i k1 n hb
        cases hr; exact op_cvt h ho hs hd hz hb
      · cases hr
    · cases hc
  · rename_i y i ho
    obtain ⟨z, hz, rfl⟩ := map_some hc
    simp only [AOp.run] at hr
    split at hr
    · rename_i vs hv
      split at hr
      · rename_i v hvi
        cases hr; exact op_ext h ho hz hv hvi
      · cases hr
    · cases hr
  · rename_i f first caps ho
    split at hc
    · rename_i hf0
      obtain ⟨cs, hcs, rfl⟩ := map_some hc
      cases hr; exact op_mkf h ho hf0 hcs
    · cases hc
  · rename_i t y c ho
    split at hc
    · rename_i e ht
      split at hc
      · rename_i z inf y' c' hz hi hy hcc
        cases hc
        simp only [AOp.run] at hr
        split at hr
        · rename_i k1 l k2 cp hl hcp
          split at hr
          · rename_i hcd
            cases hr; exact op_mks h hf htok hE ho ht hz hi hy hcc hl hcp hcd.1 hcd.2.1 hcd.2.2.1 hcd.2.2.2
          · cases hr
        · cases hr
      · cases hc
    · cases hc
  · rename_i t y lo hi ho
    split at hc
    · rename_i e ht
      split at hc
      · rename_i b s y' lo' hi' hs hy hlo hhi
        cases hc
        exact op_slc h ho ht hs hy hlo hhi hr
      · cases hc
    · cases hc
  · rename_i t y n ho
    split at hc
    · rename_i fs ht
      split at hc
      · rename_i f y' hfn hy
        split at hc
        · rename_i b s hs
          split at hc
          · cases hc
          · rename_i hs0
            cases hc
            simp only [AOp.run] at hr
            split at hr
            · rename_i e of he
              cases hr; exact (op_fad h ho ht hfn hs hs0 hy).1 e of he
            · rename_i u i of he
              cases hr; exact (op_fad h ho ht hfn hs hs0 hy).2 u i of he
            · cases hr
        · cases hc
      · cases hc
    · cases hc
  · rename_i t y n ho
    split at hc
    · rename_i fs ht
      split at hc
      · rename_i f y' hfn hy
        obtain ⟨s, hs, rfl⟩ := map_some hc
        simp only [AOp.run] at hr
        split at hr
        · rename_i cs hv
          obtain ⟨v, hp, he⟩ := map_some hr
          cases he; exact op_fld h ho ht hfn hs hy hv hp
        · cases hr
      · cases hc
    · cases hc
  · rename_i t y z ho
    split at hc
    · rename_i e y' z' ht hy hz
      split at hc
      · rename_i b s hs
        cases hc
        simp only [AOp.run] at hr
        split at hr
        · rename_i k n hzv
          split at hr
          · rename_i tg xs hyv
            split at hr
            · rename_i hn
              split at hr
              · rename_i el he
                split at hr
                · rename_i hsz
                  cases hr; exact op_iad_sl h ho ht hs hy hz hzv hyv hn he hsz
                · cases hr
              · cases hr
            · cases hr
          · rename_i u st m hyv
            split at hr
            · rename_i zz es hes
              split at hr
              · rename_i hn
                split at hr
                · rename_i el he
                  split at hr
                  · rename_i hsz
                    cases hr; exact op_iad_rf h ho ht hs hy hz hzv hyv hn.1 hn.2 hes he hsz
                  · cases hr
                · cases hr
              · cases hr
            · cases hr
          · cases hr
        · cases hr
      · cases hc
    · rename_i n e y' z' ht hy hz
      split at hc
      · rename_i b s hs
        cases hc
        simp only [AOp.run] at hr
        split at hr
        · rename_i k j hzv
          split at hr
          · rename_i hj
            split at hr
            · rename_i el of hyv
              cases hr; exact (op_aad h ho ht hs hy hz hzv hj.1 hj.2).1 _ _ hyv
            · rename_i u i of hyv
              cases hr; exact (op_aad h ho ht hs hy hz hzv hj.1 hj.2).2 _ _ _ hyv
            · cases hr
          · cases hr
        · cases hr
      · cases hc
    · cases hc
  · rename_i t y z ho
    split at hc
    · rename_i y' z' ht hy hz
      cases hc
      simp only [AOp.run] at hr
      split at hr
      · rename_i k n s hzv hyv
        split at hr
        · rename_i hn
          split at hr
          · rename_i c hcc
            cases hr; exact op_sidx h ho ht hy hz hzv hyv hn hcc
          · cases hr
        · cases hr
      · cases hr
    · cases hc
  · rename_i c ho
    split at hc
    · rename_i hcal
      split at hc
      · rename_i y t hargs hts
        split at hc
        · rename_i e ht
          obtain ⟨z, hz, rfl⟩ := map_some hc
          obtain ⟨l1, l2, l3, l4⟩ := op_len (P := P) (tok := tok) h ho hcal hargs hts hz
          simp only [AOp.run] at hr
          split at hr
          · rename_i hv; cases hr; exact l1 e ht hv
          · rename_i tg xs hv; cases hr; exact l2 e tg xs ht hv
          · rename_i u st m hv; cases hr; exact l3 e u st m ht hv
          · cases hr
        · rename_i ht
          obtain ⟨z, hz, rfl⟩ := map_some hc
          obtain ⟨l1, l2, l3, l4⟩ := op_len (P := P) (tok := tok) h ho hcal hargs hts hz
          simp only [AOp.run] at hr
          split at hr
          · rename_i s hv; cases hr; exact l4 s ht hv
          · cases hr
        · cases hc
      · cases hc
    · rename_i hcal
      split at hc
      · rename_i y z t u hargs hts
        split at hc
        · rename_i e e2 ht hu
          split at hc
          · rename_i zv inf y' z' hzo hi hy hz
            cases hc
            exact op_app h hf htok hE ho hcal hargs hts ht hu hzo hi hy hz hr
          · cases hc
        · cases hc
      · cases hc
    · obtain ⟨z, hz, rfl⟩ := map_some hc
      cases hr
    · obtain ⟨z, hz, rfl⟩ := map_some hc
      cases hr
    · cases hc
  · cases hc

end ops
end Go.Am
