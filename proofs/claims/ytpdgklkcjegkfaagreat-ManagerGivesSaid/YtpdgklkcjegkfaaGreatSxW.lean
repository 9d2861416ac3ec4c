/-
  A symbolic executor for the model's code, part W: a region that draws its order is sound.
-/
import Derived.Test.YtpdgklkcjegkfaaGreatSxV
namespace Go.Sx
open Go

section
variable {P : Program} {ops : Array Oper} {Q : Exit → Act → World → Prop}

/-- Any order: by an invariant of what is carried out. -/
theorem any_sound {I : (Nat → Bool) → Act → World → Prop}
    (hst : ∀ (E : Nat → Bool) (i : Nat) a w (K : Act → World → Prop), i < ops.size → E i = false → Closed ops E → Closed ops (add E i) → I E a w → (∀ a' w', I (add E i) a' w' → K a' w') → wpOp P ops Q i K a w)
    (hend : ∀ (E : Nat → Bool) a w, (∀ k, k < ops.size → E k = true) → I E a w → Q .normal a w)
    (hedge : ∀ (i : Nat) (o : Oper), ops[i]? = some o → ∀ e ∈ o.after, Region.binds .any e = true → e.on < i) :
    ∀ (fuel : Nat) (listed : Array Bool) a w, listed.size = ops.size → (List.range ops.size).countP (fun k => !listed.getD k false) = fuel → Closed ops (fun k => listed.getD k false) →
      I (fun k => listed.getD k false) a w → wpAny P .any ops Q fuel listed a w := by
  have hall : ∀ (listed : Array Bool), listed.size = ops.size → Region.ready .any ops listed = [] → ∀ k, k < ops.size → listed.getD k false = true := by
    intro listed hsz hr k
    induction k using Nat.strongRecOn with
    | _ k ih =>
      intro hk
      cases h : listed.getD k false with
      | true => rfl
      | false =>
        have : k ∈ Region.ready .any ops listed := by
          rw [mem_ready]
          refine ⟨?_, ops[k], by simp [hk], fun e he hb => ?_⟩
          · have hk' : k < listed.size := by omega
            simpa [Array.getD, hk'] using h
          · have hlt := hedge k ops[k] (by simp [hk]) e he hb
            exact ih e.on hlt (by omega)
        rw [hr] at this; simp at this
  intro fuel
  induction fuel with
  | zero =>
    intro listed a w hsz hc hcl hI
    have hl : ∀ k, k < ops.size → listed.getD k false = true := by
      intro k hk
      rw [List.countP_eq_zero] at hc
      have := hc k (by simpa using hk)
      simpa using this
    refine ⟨?_, hend _ a w hl hI⟩
    rw [List.eq_nil_iff_forall_not_mem]
    intro j hj
    rw [mem_ready] at hj
    obtain ⟨h1, o, h2, _⟩ := hj
    have hlt : j < ops.size := (Array.getElem?_eq_some_iff.1 h2).1
    have := hl j hlt
    have hk' : j < listed.size := by omega
    simp [Array.getD, hk'] at h1 this
    rw [h1] at this; cases this
  | succ fuel ih =>
    intro listed a w hsz hc hcl hI
    refine ⟨fun hr => hend _ a w (hall listed hsz hr) hI, fun i hi => ?_⟩
    rw [mem_ready] at hi
    obtain ⟨h1, o, h2, h3⟩ := hi
    have hlt : i < ops.size := (Array.getElem?_eq_some_iff.1 h2).1
    have hlt' : i < listed.size := by omega
    have hfalse : listed.getD i false = false := by simpa [Array.getD, hlt'] using h1
    have hadd : (fun k => (listed.setIfInBounds i true).getD k false) = add (fun k => listed.getD k false) i := by
      funext k
      by_cases hk : i = k
      · subst hk; simp [add, hlt']
      · rw [getD_set_ne _ hk]
        have : ¬ k = i := fun h => hk h.symm
        simp [add, this]
    have hcl2 : Closed ops (add (fun k => listed.getD k false) i) := by
      intro j o' hj ho' e he hb
      simp only [add, Bool.or_eq_true, beq_iff_eq] at hj ⊢
      rcases hj with hj | hj
      · exact .inl (hcl j o' hj ho' e he hb)
      · subst hj
        rw [h2] at ho'; injection ho' with ho'; subst ho'
        exact .inl (h3 e he hb)
    refine hst _ i a w _ hlt hfalse hcl hcl2 hI fun a' w' hI' => ?_
    refine ih _ a' w' (by simp [hsz]) ?_ (by rw [hadd]; exact hcl2) (by rw [hadd]; exact hI')
    have key : ∀ l : List Nat, l.Nodup → i ∈ l → l.countP (fun k => !listed.getD k false) = l.countP (fun k => !(listed.setIfInBounds i true).getD k false) + 1 := by
      intro l
      induction l with
      | nil => intro _ h; simp at h
      | cons x l ih =>
        intro hn hm
        rw [List.nodup_cons] at hn
        rw [List.countP_cons, List.countP_cons]
        by_cases hx : x = i
        · subst hx
          have : l.countP (fun k => !(listed.setIfInBounds x true).getD k false) = l.countP (fun k => !listed.getD k false) := by
            refine List.countP_congr fun c hc => ?_
            have : x ≠ c := fun h => hn.1 (h ▸ hc)
            rw [getD_set_ne _ this]
          rw [this]
          have e1 : (listed.setIfInBounds x true).getD x false = true := by simp [hlt']
          rw [e1, hfalse]; simp
        · have hm' : i ∈ l := by
            rcases List.mem_cons.1 hm with h | h
            · exact absurd h.symm hx
            · exact h
          rw [ih hn.2 hm', getD_set_ne _ (fun h => hx h.symm)]
          omega
    have := key _ List.nodup_range (by simpa using hlt)
    omega
end

/-- Variables made ahead are not in the model's memory. -/
theorem step_ahead {ρ : Env} {s s0 : AS} {w : World} (h : R ρ s w) (hn : s.next.nat ≤ s0.next.nat) (hh : ∀ i, i.nat < s.next.nat → PT.get i s0.heap = PT.get i s.heap) (n : Nat) :
    Step ρ s w ρ s0 { w with drawn := n } := by
  have hd := h.drawn n
  refine ⟨⟨?_, ?_, ?_⟩, fun _ _ => rfl, hn, ?_, Nat.le_refl _, fun _ _ _ => rfl, rfl, rfl, rfl⟩
  · intro i o l e hl
    have := (h.dom i l hl).1
    rw [hh i this] at e
    exact hd.ob i o l e hl
  · intro i j o o' l l' e ho e' ho' hl hl' hb
    rw [hh i (h.dom i l hl).1] at e
    rw [hh j (h.dom j l' hl').1] at e'
    exact hd.inj i j o o' l l' e ho e' ho' hl hl' hb
  · intro i l hl
    have := hd.dom i l hl
    exact ⟨by omega, this.2⟩
  · rintro b ⟨i, o, l, e, ho, hl, rfl⟩
    rw [hh i (h.dom i l hl).1] at e
    exact .inr ⟨i, o, l, e, ho, hl, rfl⟩

theorem linked_pair {bf : Nat → Nat} : ∀ {l : List Nat}, linked bf l = true → l.Pairwise fun a b => (bf b).testBit a = true := by
  intro l
  induction l with
  | nil => intro _; exact .nil
  | cons a l ih =>
    intro h
    simp only [linked, Bool.and_eq_true, List.all_eq_true] at h
    rw [List.pairwise_cons]
    exact ⟨h.1, ih h.2⟩

theorem pair_get {R : Nat → Nat → Prop} : ∀ {l : List Nat}, l.Pairwise (fun a b => a < b) → l.Pairwise R → ∀ c d, c ∈ l → d ∈ l → c < d → R c d := by
  intro l
  induction l with
  | nil => intro _ _ c d h; simp at h
  | cons a l ih =>
    intro h1 h2 c d hc hd hlt
    rw [List.pairwise_cons] at h1 h2
    rcases List.mem_cons.1 hc with hca | hc
    · rcases List.mem_cons.1 hd with hda | hd
      · omega
      · rw [hca]; exact h2.1 d hd
    · rcases List.mem_cons.1 hd with hda | hd
      · have := h1.1 c hc; omega
      · exact ih h1.2 h2.2 c d hc hd hlt

theorem EntOK.weaken {P : Program} {call : FuncId → List AV → AS → CR} {ops : Array Oper} {c c' : Prop} (h : c' → c) {C0 C1 : Option AS} {e : TE} (k : EntOK P call ops c C0 C1 e) : EntOK P call ops c' C0 C1 e := by
  obtain ⟨C, S, S1, h1, h2, h3, h4, h5⟩ := k
  refine ⟨C, S, S1, h1, h2, h3, fun x => h4 (h x), ?_⟩
  rcases h5 with ⟨a, S2, al, b, d, g⟩ | h5
  · exact .inl ⟨a, S2, al, b, fun x => d (h x), g⟩
  · exact .inr h5

theorem chain_sorted {P : Program} (ops : Array Oper) : ((ops.toList.zipIdx.filter fun p => isChain P p.1).map (·.2)).Pairwise (fun a b => a < b) := by
  have h : (ops.toList.zipIdx.map (·.2)).Pairwise (fun a b => a < b) := by
    rw [List.zipIdx_map_snd]
    exact List.pairwise_lt_range'
  exact h.sublist (List.Sublist.map _ List.filter_sublist)

section
variable {P : Program} {call : FuncId → List AV → AS → CR} {ops : Array Oper}

theorem draw_sound (hcall : CallOK P call) (hm : P.follows .mixedOrders = true) {N : Nat} (hd : ops.toList.all (dstOk N) = true) {f f' : Fr} {s s' : AS} (h : runDraw P call ops f s = .go f' s') :
    (s'.cons → s.cons) ∧ (s'.cons → ∀ ρ w a (Q : Exit → Act → World → Prop) (id : Nat), R ρ s w → FR ρ N f a →
      (∀ ρ' a' w', FR ρ' N f' a' → Step ρ s w ρ' s' w' → Q .normal a' w') → (Code.region id ops true).wp P Q a w) := by
  unfold runDraw at h
  split at h
  · simp at h
  · rename_i pl hpl
    split at h
    · simp at h
    · rename_i al s0 hal
      split at h
      · simp at h
      · rename_i te cs f1 s1 hdr
        split at h
        · rename_i q hq
          simp only [RR.go.injEq] at h
          obtain ⟨rfl, rfl⟩ := h
          unfold plan at hpl
          simp only [cond_eq_ite] at hpl
          split at hpl
          · rename_i hfit
            simp only [Option.some.injEq] at hpl
            simp only [Bool.and_eq_true] at hfit
            obtain ⟨⟨hlink, htmps⟩, hedges⟩ := hfit
            generalize hbf : (fun i => (befores ops.toList []).getD i 0) = bf at hpl hlink htmps
            generalize hch : (ops.toList.zipIdx.filter fun p => isChain P p.1).map (·.2) = chain at hpl hlink
            obtain ⟨r1, r2⟩ := recheck_ok hq
            obtain ⟨a1, a2, a3, a4, a5⟩ := allocs_ok _ _ _ _ hal
            have hl : ∀ (k : Nat) (o : Oper), ops[k]? = some o → (o, k) ∈ ops.toList.zipIdx := by
              intro k o ho
              rw [List.mem_zipIdx_iff_getElem?]
              simpa using ho
            have hget : ∀ (k : Nat) (p : PO), pl[k]? = some p → ops[k]? = some p.o ∧ p.c = cls P p.o ∧ p.lo = (chain.filter fun c => (bf k).testBit c).length ∧ p.hi = (chain.filter fun c => !(bf c).testBit k).length := by
              intro k p hk
              rw [← hpl] at hk
              obtain ⟨g1, g2, g3, g4⟩ := planGo_get hk
              rw [List.getElem?_zipIdx] at g1
              simp only [Nat.zero_add, Option.map_eq_some_iff] at g1
              obtain ⟨o, g0, g1⟩ := g1
              injection g1 with e1 e2
              subst e1
              rw [← e2] at g3 g4
              exact ⟨by simpa using g0, g2, g3, g4⟩
            have hpc : ∀ p ∈ pl, p.c = cls P p.o := by
              intro p hp
              obtain ⟨k, hk⟩ := List.getElem?_of_mem hp
              exact (hget k p hk).2.1
            obtain ⟨t1, t2, t3, t4, t5, t6⟩ := draw_ok hcall _ _ _ _ _ _ _ _ hpc hdr
            have hplen : pl.length = ops.size := by rw [← hpl, planGo_length]; simp
            have htlen : te.length = ops.size := by rw [← hplen, ← t1]; simp
            have hqc : ∀ k, qc pl k = chain.countP fun c => decide (c < k) := by
              intro k
              unfold qc
              rw [← hpl, planGo_count, ← hch]
              have := zip_count (isChain P) ops.toList 0 k
              simp only [Nat.zero_add] at this
              rw [this]
            have hclen : (pl.filter isCh).length = chain.length := by
              have := planGo_count (P := P) (bf := bf) (chain := chain) (l := ops.toList.zipIdx) ops.size
              rw [hpl, List.take_of_length_le (by rw [hplen]; exact Nat.le_refl _), List.take_of_length_le (by simp)] at this
              rw [this, ← hch, List.length_map]
            have hte : ∀ (k : Nat) (e : TE), te[k]? = some e → pl[k]? = some e.p := by
              intro k e hk
              rw [← t1, List.getElem?_map, hk]; rfl
            have hfr : ∀ (k : Nat) (e : TE), te[k]? = some e → (te.map (·.f) ++ [f1])[k]? = some e.f := by
              intro k e hk
              have hlt := (List.getElem?_eq_some_iff.1 hk).1
              rw [List.getElem?_append_left (by simpa using hlt), List.getElem?_map, hk]; rfl
            have hfe : (te.map (·.f) ++ [f1])[te.length]? = some f1 := by
              rw [List.getElem?_append_right (by simp)]; simp
            have hfit : ∀ (i : Nat) (o : Oper) (d : Tmp), ops[i]? = some o → o.dst = some d → (tmpsOf o ops).contains d = false ∧ ∀ (j : Nat) (p : Oper), ops[j]? = some p → j ≠ i →
                p.dst ≠ some d ∧ ((tmpsOf p ops).contains d = true → (i < j → (bf j).testBit i = true) ∧ (¬ i < j → (bf i).testBit j = true)) := by
              intro i o d ho hod
              unfold tmpsFit at htmps
              rw [List.all_eq_true] at htmps
              have := htmps _ (hl i o ho)
              simp only [hod, Bool.and_eq_true, Bool.not_eq_true', List.all_eq_true, Bool.or_eq_true, cond_eq_ite, Bool.not_eq_true'] at this
              refine ⟨this.1, fun j p hp hji => ?_⟩
              have h2 := this.2 _ (hl j p hp)
              simp only at h2
              rcases h2 with h2 | ⟨h2, h3⟩
              · exact absurd (Nat.eq_of_beq_eq_true h2).symm hji
              · refine ⟨by simpa using h2, fun hct => ?_⟩
                rcases h3 with h3 | h3
                · rw [hct] at h3; cases h3
                · constructor
                  · intro hlt
                    have : Nat.blt i j = true := Nat.ble_eq_true_of_le hlt
                    rw [this] at h3; simpa using h3
                  · intro hlt
                    have : Nat.blt i j = false := by
                      cases hb : Nat.blt i j with
                      | false => rfl
                      | true => exact absurd (Nat.le_of_ble_eq_true hb) hlt
                    rw [this] at h3; simpa using h3
            have hone : ∀ (j k : Nat) (e e' : TE) (t : Tmp), te[j]? = some e → te[k]? = some e' → e.p.o.dst = some t → e'.p.o.dst = some t → j = k := by
              intro j k e e' t hj hk h1 h2
              rcases Nat.decEq j k with hne | heq
              · exact absurd h2 ((hfit j e.p.o t (hget j _ (hte j e hj)).1 h1).2 k e'.p.o (hget k _ (hte k e' hk)).1 (fun h => hne h.symm)).1
              · exact heq
            have hcl : ∀ (E : Nat → Bool), Closed ops E → ∀ i, i < ops.size → E i = true → ∀ k, (bf i).testBit k = true → E k = true := by
              intro E hE i hi hEi k hk
              rw [← hbf] at hk
              exact befores_closed hE i hi hEi k hk
            have hedge : ∀ (i : Nat) (o : Oper), ops[i]? = some o → ∀ e ∈ o.after, Region.binds .any e = true → e.on < i := by
              intro i o ho e he hb
              unfold edgesFit at hedges
              rw [List.all_eq_true] at hedges
              have := hedges _ (hl i o ho)
              simp only [List.all_eq_true, Bool.or_eq_true, Bool.not_eq_true'] at this
              rcases this e (by simpa using he) with h | h
              · rw [hb] at h; cases h
              · exact Nat.le_of_ble_eq_true h
            obtain ⟨al1, al2⟩ := draw_al _ _ _ _ _ _ _ _ hdr a5
            have hdrf := draw_frames _ _ _ _ _ _ _ _ hdr
            refine ⟨fun hc => by rw [← a1]; exact t2 (r1 hc), fun hc ρ w a Q id hr hf hQ => ?_⟩
            have T : TrOK P call ops N f s s0 bf chain te cs q := {
              len := htlen
              op := fun k e hk => hget k _ (hte k e hk)
              mem := by
                intro c
                rw [← hch]
                simp only [List.mem_map, List.mem_filter]
                constructor
                · rintro ⟨p, ⟨h1, h2⟩, rfl⟩
                  rw [List.mem_zipIdx_iff_getElem?] at h1
                  exact ⟨p.1, by simpa using h1, h2⟩
                · rintro ⟨o, h1, h2⟩
                  exact ⟨(o, c), ⟨hl c o h1, h2⟩, rfl⟩
              nd := by
                have := chain_sorted (P := P) ops
                rw [hch] at this
                exact this.imp fun h => Nat.ne_of_lt h
              link := by
                have := chain_sorted (P := P) ops
                rw [hch] at this
                exact fun c d hc hd hlt => pair_get this (linked_pair hlink) c d hc hd hlt
              ent := by
                intro k e hk
                have := t6 k e hk
                rw [hqc] at this
                exact this.weaken r1
              clen := by rw [t3, hclen]
              f2 := by
                intro k e t hk hno
                exact (hdrf k e.f (hfr k e hk)).2.1 t hno
              f1 := by
                intro k e j e' t hk hj he' hd'
                refine (hdrf k e.f (hfr k e hk)).2.2 j e' t hj he' hd' fun m e2 hm _ h3 h4 => ?_
                have := hone j m e' e2 t he' h3 hd' h4
                omega
              one := hone
              use := by
                intro j k e e' t hj hk h1 h2
                obtain ⟨p1, p2⟩ := hfit j e.p.o t (hget j _ (hte j e hj)).1 h1
                have hne : j ≠ k := by
                  intro h; subst h
                  rw [hj] at hk; injection hk with hk; subst hk
                  rw [List.contains_eq_mem] at p1
                  simp [h2] at p1
                obtain ⟨_, p3⟩ := p2 k e'.p.o (hget k _ (hte k e' hk)).1 (fun h => hne h.symm)
                have p4 := p3 (by simpa using h2)
                exact ⟨hne, p4.1, fun h => p4.2 (by omega)⟩
              chk := fun k e hk => r2 hc e (List.mem_of_getElem? hk)
              cons := hc
              alo := by
                intro k e i o hk h1 h2 h3
                obtain ⟨i', e1, b1, b2⟩ := a4 _ (al1 k e hk h1 h2)
                rw [h3] at e1; injection e1 with e1 e2
                subst e1
                exact ⟨e2, b1, b2⟩
              adif := al2
              dst := by
                intro k e t hk h1
                have := List.all_eq_true.1 hd e.p.o (by
                  have := (hget k _ (hte k e hk)).1
                  rw [← Array.getElem?_toList] at this
                  exact List.mem_of_getElem? this)
                unfold dstOk at this
                rw [h1] at this
                exact Nat.le_of_ble_eq_true this
              dom := hf.dom
              cl := hcl }
            refine wp_region_any hm ?_
            refine any_sound (I := Inv N f s s0 ρ w chain te cs) ?_ ?_ hedge _ _ _ _ (by simp) ?_ ?_ ?_
            · intro E i a w K hi hEi hE hA hinv hK
              have hlt : i < te.length := by rw [htlen]; exact hi
              exact inv_step hcall T (List.getElem?_eq_getElem hlt) hEi hE hA hinv hK
            · intro E a' w' hE hinv
              obtain ⟨ρ', C, hC, st, _, hsz, hds, hT, hI, _⟩ := hinv
              have hcnt : chain.countP E = (pl.filter isCh).length := by
                rw [hclen, List.countP_eq_length]
                intro c hc'
                obtain ⟨o, ho, _⟩ := (T.mem c).1 hc'
                exact hE c (Array.getElem?_eq_some_iff.1 ho).1
              obtain ⟨L, l1, l2⟩ := t4
              rw [hcnt, l1] at hC
              injection hC with hC; subst hC
              obtain ⟨d1, d2, d3⟩ := hdrf te.length f1 hfe
              have key : ∀ d v, PT.get (Pos.slot d) f1.tm = some v → d < N ∧ rel ρ' v (a'.tmps.getD d undef) := by
                intro d v hv
                by_cases hex : ∃ (j : Nat) (e' : TE), te[j]? = some e' ∧ e'.p.o.dst = some d
                · obtain ⟨j, e', hj, hd'⟩ := hex
                  have hlt := (List.getElem?_eq_some_iff.1 hj).1
                  rw [d3 j e' d hlt hj hd' (fun m e2 hm _ h3 h4 => by have := hone j m e' e2 d hj h3 hd' h4; omega)] at hv
                  injection hv with hv; subst hv
                  exact ⟨T.dst j e' d hj hd', hT j e' d hj hd' (hE j (by omega))⟩
                · have hno : ∀ (k : Nat) (e' : TE), te[k]? = some e' → e'.p.o.dst ≠ some d := fun k e' hk hd' => hex ⟨k, e', hk, hd'⟩
                  rw [d2 d (fun j e' _ hj => hno j e' hj)] at hv
                  exact ⟨hf.dom d v hv, hI d (fun k e' hk hd' => absurd hd' (hno k e' hk)) v hv⟩
              refine hQ ρ' a' w' ⟨hsz, fun d v hv => (key d v hv).1, fun d v hv => (key d v hv).2, by rw [d1]; exact hds⟩ ?_
              exact st.of_same (Same.refl _) ⟨l2.1, l2.2⟩
            · rw [List.countP_eq_length.2]
              · simp
              · intro k hk
                simp at hk
                simp [hk]
            · intro i o hi
              exfalso
              by_cases hlt : i < ops.size
              · simp [hlt] at hi
              · simp [hlt] at hi
            · have hE : (fun k => (Array.replicate ops.size false).getD k false) = fun _ => false := by
                funext k
                by_cases hlt : k < ops.size
                · simp [hlt]
                · simp [hlt]
              rw [hE]
              refine ⟨ρ, s0, ?_, step_ahead hr a2 a3 _, Nat.le_refl _, hf.size, hf.ds, fun _ _ _ _ _ h => (by cases h), fun t _ v hv => hf.tm t v hv, ?_⟩
              · have : chain.countP (fun _ => false) = 0 := by rw [List.countP_eq_zero]; simp
                rw [this]; rfl
              · intro k e i o hk h1 h2 _ h3
                obtain ⟨_, b1, _⟩ := T.alo k e i o hk h1 h2 h3
                cases hi : ρ i with
                | none => rfl
                | some l => have := (hr.dom i l hi).1; omega
          · simp at hpl
        · simp at h
end
end Go.Sx
