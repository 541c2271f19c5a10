/- Appends, maps and calls as operations. Conditions: those that each theorem names. -/
import Derived.Test.YtfbcedjheempfaaSim8
set_option linter.unusedVariables false
set_option linter.unusedSimpArgs false
namespace Go.Sim
variable {P : Program} {FB : Nat → Prop} {w0 : World} {μ : Nat → Option Loc} {h : AH} {w : World}

theorem apd_rd {id off n k : Nat} {new : List Value} {h' : AH} (e : apd h id off n k new = some h') : ∃ vs, rd h id off (n * k) = some vs := by
  unfold apd at e
  split at e
  · cases e
  · cases e
  · rename_i cs st ln hro hold ho
    have : off + n * k ≤ cs.length := by
      split at e
      · omega
      · split at e
        · omega
        · cases e
    exact ⟨_, by unfold rd; rw [ho]; exact if_pos this⟩
  · cases e

theorem aappend_sound {t u ty : TypeId} {x y : Operand} {ρ : Operand → Value} {K : Value → AH → Prop} (hk : aappend P h t u (ρ x) (ρ y) K) :
    ∃ v h', AIns P (fun σ => Builtin.append_ #[t, u] ty #[σ x, σ y]) [x, y] ρ h v h' ∧ K v h' := by
  unfold aappend at hk
  split at hk
  · rename_i e i hs
    obtain ⟨hpos, hby, hnk, hsu, hk⟩ := hk
    obtain ⟨hu, ht⟩ := si_facts hs
    obtain ⟨d, j, z, g⟩ := ti_facts ht
    obtain ⟨du, hxu⟩ := Option.isSome_iff_exists.1 hsu
    have hni : ∀ k, du ≠ .int k := fun k hh => hnk k (by rw [hxu, hh])
    split at hk
    · rename_i m new hsrc
      split at hk
      · -- onto nil
        rename_i k0 hp
        obtain ⟨hb, hm0, hk⟩ := hk
        refine ⟨_, _, ?_, hk⟩
        intro FB w0 μ σ w s hx
        have hvx := hx x (by simp); rw [hp] at hvx
        have hvy := hx y (by simp)
        obtain ⟨cnew, r1, r2, r3, r4⟩ := asrc_run s hsrc hvy
        obtain ⟨cnew', r1', r2', r3', _⟩ := asrc_run s.drew hsrc hvy
        have hcx : ∃ A', σ x = .slice A' 0 0 := by
          generalize hcc : σ x = cc at hvx
          cases hvx with
          | plain _ hq => simp [isPlain] at hq
          | sl0 A' _ => exact ⟨A', rfl⟩
        obtain ⟨A', hcx⟩ := hcx
        have ho : (Builtin.firstCells i.size 0 (.slice A' 0 0)).run P w.drew = .ok #[] w.drew := by
          cases A' <;> simp [Builtin.firstCells, loadCells, loadCellsFrom]
        obtain ⟨newCap, hc1, hrun⟩ := run_append_new (w := w) (ty := ty) hu g hxu hni hby r1 r2' (base := A') (n := 0) (cap := 0) (by omega) (by omega) ho
        have hlen : new.length = cnew'.size := by have := r3'.1; simpa using this
        have hsz : (#[] ++ cnew' ++ Builtin.zeroCells z.cells (newCap - (0 + m))).size = newCap * i.size := by
          have : z.cells.size = i.size := by rw [← Array.length_toList, g.zc]; exact g.zn
          simp [zeroCells_size, this, ← hlen, r4]
          rw [← Nat.add_mul]; congr 1; omega
        refine ⟨_, _, _, by simp only [hcx]; exact hrun, s.drew.new (cs := new) (arr := #[] ++ cnew' ++ Builtin.zeroCells z.cells (newCap - (0 + m))) (e := e) (fz := (0, 0)) (by simp; omega) (fun q a b => ?_) (fun q _ hc => by simp at hc) (asrc_one s hsrc), ?_⟩
        · have : (#[] ++ cnew' ++ Builtin.zeroCells z.cells (newCap - (0 + m)))[q] = cnew'[q]'(by omega) := by
            rw [Array.getElem_append_left (by simp; omega)]; simp
          rw [this]; exact r3'.2 q a (by simp; omega)
        · have := VR.sl (μ := upd μ h.n ⟨w.heap.size, 0, (#[] ++ cnew' ++ Builtin.zeroCells z.cells (newCap - (0 + m))).size⟩) h.n 0 m i.size newCap _ (upd_same _ _) (by omega) (by simp only [hsz]; omega)
          simpa using this
      · rename_i id off n k hp
        obtain ⟨rfl, hb, hk⟩ := hk
        split at hk
        · rename_i h' hap
          refine ⟨_, _, ?_, hk⟩
          intro FB w0 μ σ w s hx
          have hvx := hx x (by simp); rw [hp] at hvx
          have hvy := hx y (by simp)
          obtain ⟨cnew, r1, r2, r3, r4⟩ := asrc_run s hsrc hvy
          obtain ⟨cnew', r1', r2', r3', _⟩ := asrc_run s.drew hsrc hvy
          have hzs : z.cells.size = i.size := by rw [← Array.length_toList, g.zc]; exact g.zn
          generalize hcc : σ x = cc at hvx
          -- into a new row
          have grow : ∀ (l : Loc) (A : Option Addr) (cap : Nat) (cold : Array Value), μ id = some l → cap < n + m → (Builtin.firstCells i.size n (.slice A n cap)).run P w.drew = .ok cold w.drew → cold.size = n * i.size →
              (∀ q (a : q < cold.size), w.cell? ⟨l.b, l.o + off + q, none⟩ = some cold[q]) →
              ∃ μ' cv w', (Builtin.append_ #[t, u] ty #[.slice A n cap, σ y]).run P w = .ok cv w' ∧ Post P FB w0 μ h μ' h' w' ∧ VR μ' (.slice (some ⟨h.n, 0, none⟩) (n + m) i.size) cv := by
            intro l A cap cold hm hlt ho hcs hcell
            obtain ⟨newCap, hc1, hrun⟩ := run_append_new (w := w) (ty := ty) hu g hxu hni hby r1 r2' (base := A) (n := n) (cap := cap) hlt hb ho
            obtain ⟨_, h2, _, _⟩ := apd_post s.drew hap r4 (asrc_one s hsrc) hm r3'
            have hp2 := h2 cold (cold ++ cnew' ++ Builtin.zeroCells z.cells (newCap - (n + m))) e hcs hcell ⟨_, rfl⟩
            have hlen : new.length = cnew'.size := by have := r3'.1; simpa using this
            have hsz : (cold ++ cnew' ++ Builtin.zeroCells z.cells (newCap - (n + m))).size = newCap * i.size := by
              simp only [Array.size_append, zeroCells_size, hzs, hcs, ← hlen, r4]
              rw [← Nat.add_mul, ← Nat.add_mul]; congr 1; omega
            refine ⟨_, _, _, hrun, hp2, ?_⟩
            have := VR.sl (μ := upd μ h.n ⟨w.drew.heap.size, 0, (cold ++ cnew' ++ Builtin.zeroCells z.cells (newCap - (n + m))).size⟩) h.n 0 (n + m) i.size newCap _ (upd_same _ _) hc1 (by simp only [hsz]; omega)
            exact this
          cases hvx with
          | plain _ hq => simp [isPlain] at hq
          | slz _ _ _ l hm ho A' =>
            by_cases hm0 : m = 0
            · subst hm0
              obtain ⟨_, _, h3, _⟩ := apd_post s hap r4 (asrc_one s hsrc) hm r3
              have hp3 := h3 (by omega) ho
              have hc0 : cnew.toList = [] := by
                have a := r3.1
                have b : new = [] := List.eq_nil_of_length_eq_zero (by omega)
                subst b
                exact List.eq_nil_of_length_eq_zero (by simpa using a.symm)
              refine ⟨_, .slice A' 0 0, w, ?_, hp3, ?_⟩
              · simp only [hcc]; exact run_append_in (ty := ty) hu g hxu hni r1 r2 (base := A') (n := 0) (cap := 0) (by omega) (fun a ha => by rw [hc0]; rfl) (fun _ => rfl)
              · exact .slz _ _ _ _ (upd_same _ _) (Nat.zero_le _) A'
            · simp only [hcc]; refine grow l A' 0 #[] hm (by omega) ?_ (by simp) (fun q a => by simp at a)
              cases A' <;> simp [Builtin.firstCells, loadCells, loadCellsFrom]
          | sl _ _ _ _ cap l hm hn hr =>
            by_cases hfit : n + m ≤ cap
            · obtain ⟨h1, _, _, _⟩ := apd_post s hap r4 (asrc_one s hsrc) hm r3
              obtain ⟨hp1, q1, q2⟩ := h1 cap hr hfit
              have hstore : (storeCells ((⟨l.b, l.o + off, none⟩ : Addr).add (n * i.size)) cnew.toList).run P w = .ok () (w.setCells l.b (l.o + off + n * i.size) cnew.toList) := by
                rw [add_none]
                have := run_storeCells_cells (P := P) l.b (l.o + off + n * i.size) cnew.toList 0 w (fun a ha => by simpa using q1 a ha) (fun a ha => by simpa using q2 a ha) (by
                  intro v hv
                  obtain ⟨q, hq, rfl⟩ := List.getElem_of_mem hv
                  have hq' : q < new.length := by rw [r3.1]; exact hq
                  rw [one_eq, (r3.2 q hq' hq).one]
                  exact asrc_one s hsrc _ (List.getElem_mem hq'))
                simpa using this
              refine ⟨_, .slice (some ⟨l.b, l.o + off, none⟩) (n + m) cap, _, ?_, hp1, ?_⟩
              · simp only [hcc]; exact run_append_in (ty := ty) hu g hxu hni r1 r2 (base := some ⟨l.b, l.o + off, none⟩) hfit (fun a ha => by obtain rfl := Option.some.inj ha; exact hstore) (fun hh => by cases hh)
              · have := VR.sl (μ := upd μ h.n ⟨l.b, l.o + off, l.room - off⟩) h.n 0 (n + m) i.size cap _ (upd_same _ _) hfit (by simp only; omega)
                exact this
            · obtain ⟨_, _, _, hroom⟩ := apd_post s hap r4 (asrc_one s hsrc) hm r3
              have hrd : ∃ cold : List Value, cold.length = n * i.size ∧ ∀ q (a : q < cold.length), w.cell? ⟨l.b, l.o + off + q, none⟩ = some cold[q] := by
                obtain ⟨vs, hvs⟩ := apd_rd hap
                obtain ⟨cvs, _, e2, e3⟩ := s.read hm hvs
                exact ⟨cvs, e2, e3⟩
              obtain ⟨cold, c1, c2⟩ := hrd
              simp only [hcc]; refine grow l _ cap cold.toArray hm (by omega) ?_ (by simpa using c1) (fun q a => by simpa using c2 q (by simpa using a))
              exact run_loadCells_list P w.drew l.b (l.o + off) _ cold c1 c2
        · exact hk.elim
      · exact hk.elim
    · exact hk.elim
  · exact hk.elim

end Go.Sim
