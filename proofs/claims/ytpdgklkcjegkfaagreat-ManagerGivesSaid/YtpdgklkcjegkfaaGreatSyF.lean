/-
  Behind the symbolic executor: what a run asks, as a word that is not unfolded.
-/
import Derived.Test.YtpdgklkcjegkfaaGreatSyE
namespace Go.Sx
open Go

structure Holds (o : Option Prop) : Prop where
  h : holdsO o

theorem Holds.of {o : Option Prop} {p : Prop} (e : holdsO o = p) (h : p) : Holds o := ⟨e ▸ h⟩
theorem Holds.cast {o o' : Option Prop} (h : Holds o) (e : o = o') : Holds o' := e ▸ h

/-- Codes one behind the other. -/
noncomputable def evLF (P : Program) (K : FuncId → List AV → AS → Option CR) (n : Nat) : List Code → Fr → AS → ER
  | [], f, s => .at .normal f s
  | c :: l, f, s => thenC ((fast P K n).1 (cC P c) f s) (evLF P K n l)

section
variable {P : Program} {K : FuncId → List AV → AS → Option CR}

theorem evLF_eq (n : Nat) : ∀ (l : List Code) (f : Fr) (s : AS), evLF P K n l f s = evL P K n l f s := by
  intro l
  induction l with
  | nil => intro f s; rfl
  | cons c l ih =>
    intro f s
    simp only [evLF, evL, ← fast_ev]
    unfold thenC
    split
    · rename_i h; rw [h]; exact ih _ _
    · rename_i hq
      split
      · rename_i f1 s1 hr; exact absurd hr (hq f1 s1)
      · rfl

theorem chunkA (hK : CallOK P fun g args s => (K g args s).getD .fail) (hm : P.follows .mixedOrders = true) {n M : Nat} {l : List Code} (hd : l.all (dOk M) = true) {f : Fr} {s : AS} {t : Tm}
    (hh : Holds (fitOA t none (evLF P K n l f s))) {w0 w : World} {ρ : Env} {a : Act} (g : Got w0 ρ s w) (hf : FR ρ M f a) {Q : Exit → Act → World → Prop} {c : Code}
    (k : ∀ ρ' a' w' orc, Got w0 ρ' ⟨t.heap, t.next, orc, True⟩ w' → FR ρ' M ⟨mkF t.tms, []⟩ a' → c.wp P Q a' w') : (joinC l c).wp P Q a w := by
  have hh := hh.h
  rw [evLF_eq] at hh
  cases hr : evL P K n l f s with
  | fail => rw [hr] at hh; exact hh.elim
  | «at» y f' s' =>
    rw [hr] at hh
    simp only [fitOA, fitOR, cond_eq_ite] at hh
    split at hh
    · rename_i hx
      simp only [Bool.and_eq_true] at hx
      obtain ⟨hx, hap⟩ := hx
      split at hh
      · rename_i ps hps
        split at hh
        · rename_i rs hrs
          split at hh
          · rename_i qs hqs
            split at hh
            · rename_i hds
              have hh : allP ps (allP rs (allP qs s'.cons)) := hh
              obtain ⟨h1, h2⟩ := allP_out hh
              obtain ⟨h3, h4⟩ := allP_out h1
              obtain ⟨h5, h6⟩ := allP_out h3
              have hx : y = .normal := by cases y <;> first | rfl | simp [isX] at hx
              subst hx
              refine (evL_sound hK hm n M l hd _ _ _ _ _ hr).2 h5 ρ w a Q c g.r hf fun e ρ' a' w' k1 k2 k3 => ?_
              have k1 : e = .normal := k1
              subst k1
              obtain ⟨g1, g2⟩ := fitR_sound hap hps hrs hqs h2 h4 h6 hds [] True (g.step k3) k2
              exact k _ a' w' [] g1 g2
            · exact hh.elim
          · exact hh.elim
        · exact hh.elim
      · exact hh.elim
    · exact hh.elim

theorem code_endA (hK : CallOK P fun g args s => (K g args s).getD .fail) (hm : P.follows .mixedOrders = true) {n M : Nat} {fn : Func} {c : Code} (hd : dOk M c = true) {f : Fr} {s : AS}
    (hh : Holds (endO P fn ((fast P K n).1 (cC P c) f s))) {w0 w : World} {ρ : Env} {a : Act} (g : Got w0 ρ s w) (hf : FR ρ M f a) :
    c.wp P (bodyPost P fn fun e w' => e = .returned (.bool true) ∧ Still w0 w') a w := by
  have hh := hh.h
  rw [← fast_ev] at hh
  exact code_end hK hm hd hh g hf

theorem code_fitH (hK : CallOK P fun g args s => (K g args s).getD .fail) (hm : P.follows .mixedOrders = true) {n M : Nat} {c : Code} (hd : dOk M c = true) {x : Option Nat} {f : Fr} {s : AS} {t : Tm}
    (hh : Holds (fitOA t x ((fast P K n).1 (cC P c) f s))) {w0 w : World} {ρ : Env} {a : Act} (g : Got w0 ρ s w) (hf : FR ρ M f a) {Q : Exit → Act → World → Prop}
    (k : ∀ ρ' a' w' orc, Got w0 ρ' ⟨t.heap, t.next, orc, True⟩ w' → FR ρ' M ⟨mkF t.tms, []⟩ a' → Q (exitOf x) a' w') : c.wp P Q a w :=
  code_fitA hK hm hd hh.h g hf k
end
end Go.Sx
