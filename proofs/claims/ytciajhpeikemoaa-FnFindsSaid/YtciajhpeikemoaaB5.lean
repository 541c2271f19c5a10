/- Parts of the proof of the row: the ground, contracts of the functions that it reaches (N3, N4, N5, N6, L52, L53, L54, L55, L56, L57, L58, L59, L60, L61, L62). Conditions: those that each theorem names. -/
import Derived.Test.YtciajhpeikemoaaB4
namespace Go.Proofs.Ytciajhpeikemoaa
open Go Go.Sim Go.Proofs
set_option linter.unusedSimpArgs false
set_option linter.unusedVariables false
set_option maxRecDepth 100000
set_option maxHeartbeats 1000000
theorem updB_inF (l : List Nat) (j : Nat) : updB (inF l) j true = inF (l ++ [j]) := by
  funext k
  unfold updB inF
  by_cases e : k = j
  · rw [if_pos e]; simp [e]
  · rw [if_neg e]; simp [e]
theorem inF_nil : inF [] = fun _ => false := by funext j; simp [inF]
theorem inF_take {l : List Nat} {i : Nat} (hi : i < l.length) : inF (l.take i ++ [l[i]]) = inF (l.take (i + 1)) := by
  rw [List.take_add_one, List.getElem?_eq_getElem hi]; rfl
/-- What a piece's ends owe. -/
def EndsOk (mp mr : Nat) (vP : Value) (L : List (Pc × Value)) (s : ByteArray) (k : Nat) : Prop := ∀ (h : AH) (es : List (Value × Value)) (i : Nat), Mm h mp mr vP L s es → i ≤ s.size →
  CC Try.prog 80 [.pointer (some ⟨mp, 0, none⟩), .int .i64 (k : Nat), .int .i64 (i : Nat)] h (fun v h' => ∃ es', Mm h' mp mr vP L s es' ∧ Mo h.n mr h h' es es' ∧ RdV h' v 1 encNa (ml (L.map Prod.fst) s k i) ∧ ∃ e ∈ es', e.2 = v)
theorem rdN {h : AH} {v : Value} {l : List Nat} (r : RdV h v 1 encNa l) {i : Nat} (hi : i < l.length) {A : Option Addr} {n c : Nat} (e : v = .slice A n c) : ∃ id off, A = some ⟨id, off, none⟩ ∧ id < h.n ∧ rd1 h id (off + i * 1) = some (.int .i64 (l[i] : Nat)) := by
  subst e
  rcases r with ⟨c, e, e2⟩ | ⟨id, off, c, e, q, hlt⟩
  · subst e2; simp at hi
  · injection e with e1 e2 e3
    refine ⟨id, off, e1, hlt, ?_⟩
    exact rd_1 (chunk_of (enc := encNa) (n := 0) (fun x _ => rfl) q hi)
theorem again_c (mp mr : Nat) (vP : Value) (L : List (Pc × Value)) (s : ByteArray) (k : Nat) (hk : k < L.length) (ok : Okp (L.map Prod.fst)) (E : EndsOk mp mr vP L s k) (b0 : Nat) (l0 : List Nat) (v0 : Value) (h : AH) (es0 : List (Value × Value)) (m : Mm h mp mr vP L s es0) (bs : Bs b0 mp mr vP L) (hb0 : b0 ≤ h.n) (g : GrL b0 h v0 1 (l0.map encNa).flatten) (ap : Apart es0 v0) (hl0 : ∀ j ∈ l0, j ≤ s.size) (hn0 : l0.length ≤ s.size + 1) (hs : s.size ≤ 100000) :
    CC Try.prog 169 [.pointer (some ⟨mp, 0, none⟩), .int .i64 (k : Nat), v0] h (fun v h' => ∃ (es' : List (Value × Value)) (l : List Nat), Mm h' mp mr vP L s es' ∧ Mo b0 mr h h' es0 es' ∧ GrL b0 h' v 1 (l.map encNa).flatten ∧ Apart es' v ∧ (∀ j, j ∈ l ↔ ∃ a ∈ l0, Rt (Mt (L.map Prod.fst) s k) a j) ∧ l.length ≤ 2 * (s.size + 1)) := by
  unfold EndsOk at E
  obtain ⟨N, hN⟩ : ∃ N, N = s.size + 1 := ⟨_, rfl⟩
  have pt := m.pt
  have lt := m.lt
  have r0 := g.gr.rdv (l := l0) (by decide) (fun _ => rfl)
  have kf := r0.rde (fun _ => rfl)
  obtain ⟨A0, c0, ev0, hR0⟩ := kf
  have pc : Pre h (h.alloc (.cells (List.replicate (N * 1) (.bool false)) .solo h.n)) := (Pre.refl h).alloc _
  have ec : (h.alloc (.cells (List.replicate (N * 1) (.bool false)) .solo h.n)).ob h.n = .cells (bT N (inF (l0.take 0))) .solo h.n := (alloc_same _).trans (by rw [List.take_zero, inF_nil, ← bT_zero])
  have nc : (h.alloc (.cells (List.replicate (N * 1) (.bool false)) .solo h.n)).n = h.n + 1 := rfl
  have hw : IntKind.i64.wrap ((s.size : Int) + 1) = (N : Nat) := by rw [wrapSucc (by omega), hN]
  subst ev0
  refine CC.ofN Try.func169 Try.ntmps169 Try.results169 rfl (by decide) (by kernel_rfl) ?_
  simp (maxSteps := 1000000) -implicitDefEqProofs only [push_cast, seval, pt, rd_of pt, rd1_of pt, lt, hw]
  repeat (with_reducible refine And.intro ?_ ?_; · (first | omega | decide))
  generalize (h.alloc (.cells (List.replicate (N * 1) (.bool false)) .solo h.n)) = hc at *
  refine WC.loopA (by kernel_rfl) [22] [9, 23, 24, 25, 26, 27, 28, 29] (fun i : Nat => [.int .i64 (i : Nat)]) (fun i h' => i ≤ l0.length ∧ h'.ob h.n = .cells (bT N (inF (l0.take i))) .solo h.n ∧ h.n + 1 ≤ h'.n ∧ Pre h h') (fun i => l0.length - i) 0 (by kernel_rfl) ⟨Nat.zero_le _, ec, by omega, pc⟩ ?_
  clear ec nc pc
  intro i g1 h1 hJ
  have hi := hJ.1
  have e1 := hJ.2.1
  have n1 := hJ.2.2.1
  have p1 := hJ.2.2.2
  clear hJ
  have l1 : h.n < h1.n := by omega
  simp (maxSteps := 1000000) -implicitDefEqProofs only [push_cast, seval]
  with_reducible refine bcase_d (fun hb => ?_) (fun hb => ?_)
  · have hi' : i < l0.length := by omega
    have rk := rdN (r0.pre p1) hi' rfl
    have hj := hl0 l0[i] (List.getElem_mem hi')
    have ht := inF_take hi'
    rw [← updB_inF] at ht
    generalize l0[i] = J at *
    with_reducible refine Exists.elim rk (fun id hv => ?_)
    with_reducible refine Exists.elim hv (fun off hv => ?_)
    have ev := hv.1
    have vlt := hv.2.1
    have vrd := hv.2.2
    clear hv rk
    subst ev
    have hbl : J + 1 ≤ (bT N (inF (l0.take i))).length := by rw [bT_len]; omega
    simp (maxSteps := 1000000) -implicitDefEqProofs only [push_cast, seval, e1, rd_of e1, rd1_of e1, l1, vrd, vlt]
    repeat (with_reducible refine And.intro ?_ ?_; · (first | omega | decide))
    rw [Nat.mul_one J, bT_set, ht, wrapSucc (by omega)]
    exact ⟨i + 1, by kernel_rfl, ⟨by omega, rfl, n1, p1.set (Nat.le_refl _) _⟩, by omega⟩
  have ei : i = l0.length := by omega
  rw [ei, List.take_length] at e1
  clear hb hi ei
  have m1 := m.pre p1
  have gr1 := g.pre p1
  have mo1 : Mo b0 mr h h1 es0 es0 := Mo.ofPre p1 hb0
  have vb : ∀ c, atBlock (.slice A0 l0.length c0) c → c < h.n := fun c e => (g.gr.lt e).2
  have apc : Apart es0 (.slice (some ⟨h.n, 0, none⟩) N 1) := Apart.fresh m.ent (fun c e => by have e' : h.n = c := e; omega)
  have nvc : ¬ atBlock (.slice A0 l0.length c0) h.n := fun e => by have := vb _ e; omega
  simp (maxSteps := 1000000) -implicitDefEqProofs only [push_cast, seval]
  refine WC.loopA (by kernel_rfl) [2, 10] [12, 30, 31, 32, 33, 34, 35, 36, 37, 38, 39, 40, 41, 42, 43, 44, 45, 46, 47, 48, 49, 50, 51, 52, 53, 54, 55, 56, 57, 58, 59, 60] (fun a : Value × Nat × List Nat × List (Value × Value) => [a.1, .int .i64 (a.2.1 : Nat)]) (fun a h' => (a.2.1 ≤ a.2.2.1.length ∧ (∀ j ∈ a.2.2.1, j ≤ s.size ∧ ∃ x ∈ l0, Rt (Mt (L.map Prod.fst) s k) x j) ∧ (∀ x ∈ l0, x ∈ a.2.2.1) ∧ (∀ q (hq : q < a.2.2.1.length), q < a.2.1 → ∀ j, Mt (L.map Prod.fst) s k a.2.2.1[q] j → j ∈ a.2.2.1) ∧ a.2.2.1.length ≤ l0.length + cntB N (inF a.2.2.1)) ∧ (Mm h' mp mr vP L s a.2.2.2 ∧ Mo b0 mr h h' es0 a.2.2.2) ∧ (GrL b0 h' a.1 1 (a.2.2.1.map encNa).flatten ∧ Apart a.2.2.2 a.1 ∧ ¬ atBlock a.1 h.n) ∧ Apart a.2.2.2 (.slice (some ⟨h.n, 0, none⟩) N 1) ∧ h'.ob h.n = .cells (bT N (inF a.2.2.1)) .solo h.n ∧ h.n < h'.n) (fun a => l0.length + N - a.2.1) (.slice A0 l0.length c0, 0, l0, es0) (by kernel_rfl) ⟨⟨Nat.zero_le _, fun j hj => ⟨hl0 j hj, j, hj, .refl _⟩, fun x hx => hx, fun q hq h0 => absurd h0 (Nat.not_lt_zero q), Nat.le_add_right _ _⟩, ⟨m1, mo1⟩, ⟨gr1, ap, nvc⟩, apc, e1, l1⟩ ?_
  clear e1 m1 gr1 mo1 apc nvc n1 p1 l1
  intro a g2 h2 hJ
  have hi := hJ.1.1
  have hsnd := hJ.1.2.1
  have hsub := hJ.1.2.2.1
  have hcl := hJ.1.2.2.2.1
  have hcnt := hJ.1.2.2.2.2
  have m2 := hJ.2.1.1
  have mo2 := hJ.2.1.2
  have gr2 := hJ.2.2.1.1
  have ap2 := hJ.2.2.1.2.1
  have nv2 := hJ.2.2.1.2.2
  have apc2 := hJ.2.2.2.1
  have e2 := hJ.2.2.2.2.1
  have l2 := hJ.2.2.2.2.2
  clear hJ
  have hcb := cntB_le N (inF a.2.2.1)
  have r2 := gr2.gr.rdv (l := a.2.2.1) (by decide) (fun _ => rfl)
  have kf := r2.rde (fun _ => rfl)
  with_reducible refine Exists.elim kf (fun A kf => ?_)
  with_reducible refine Exists.elim kf (fun cA kf => ?_)
  have eA := kf.1
  clear kf
  simp (maxSteps := 1000000) -implicitDefEqProofs only [push_cast, seval, eA]
  with_reducible refine bcase_d (fun hb => ?_) (fun hb => ?_)
  rotate_left
  · have ei : a.2.1 = a.2.2.1.length := by omega
    simp (maxSteps := 1000000) -implicitDefEqProofs only [push_cast, seval]
    rw [← eA]
    refine ⟨a.2.2.2, a.2.2.1, m2, mo2, gr2, ap2, fun j => ⟨fun hj => (hsnd j hj).2, fun ⟨x, hx, r⟩ => Rt_closed (fun y hy z r => ?_) (hsub x hx) r⟩, by omega⟩
    obtain ⟨q, hq, rfl⟩ := List.getElem_of_mem hy
    exact hcl q hq (by omega) z r
  have hi' : a.2.1 < a.2.2.1.length := by omega
  have rk := rdN r2 hi' eA
  have hjs := hsnd a.2.2.1[a.2.1] (List.getElem_mem hi')
  have hcl' : ∀ l' : List Nat, (∀ j, Mt (L.map Prod.fst) s k a.2.2.1[a.2.1] j → j ∈ a.2.2.1 ++ l') → ∀ q (hq : q < (a.2.2.1 ++ l').length), q < a.2.1 + 1 → ∀ j, Mt (L.map Prod.fst) s k (a.2.2.1 ++ l')[q] j → j ∈ a.2.2.1 ++ l' := fun l' hl q hq hq1 j hm => by
    have hql : q < a.2.2.1.length := by omega
    rw [List.getElem_append_left hql] at hm
    by_cases e : q = a.2.1
    · subst e; exact hl j hm
    · exact List.mem_append_left _ (hcl q hql (by omega) j hm)
  generalize a.2.2.1[a.2.1] = J at *
  with_reducible refine Exists.elim rk (fun id hv => ?_)
  with_reducible refine Exists.elim hv (fun off hv => ?_)
  have ev := hv.1
  have vlt := hv.2.1
  have vrd := hv.2.2
  clear hv rk
  subst ev
  simp (maxSteps := 1000000) -implicitDefEqProofs only [push_cast, seval, vrd, vlt]
  repeat (with_reducible refine And.intro ?_ ?_; · (first | omega | decide))
  with_reducible refine CC.mono (E h2 a.2.2.2 J m2 hjs.1) (fun ev h3 hv => ?_)
  with_reducible refine Exists.elim hv (fun es3 hv => ?_)
  have m3 := hv.1
  have mo3 := hv.2.1
  have re3 := hv.2.2.1
  have me3 := hv.2.2.2
  clear hv
  have gr3 := gr2.fm mo3.fm m2.mo
  have ap3 : Apart es3 a.1 := ap2.mo mo3 (fun c e => (gr2.gr.lt e).2)
  have apc3 : Apart es3 (.slice (some ⟨h.n, 0, none⟩) N 1) := apc2.mo mo3 (fun c e => by have e' : h.n = c := e; omega)
  have hmr : h.n ≠ mr := by have := bs.mr; omega
  have e3 := (mo3.ob h.n l2 hmr).trans e2
  have l3 : h.n < h3.n := Nat.lt_of_lt_of_le l2 mo3.n
  have mo3' := mo2.trans mo3 (show b0 ≤ h2.n by omega)
  have kf := re3.rde (fun _ => rfl)
  with_reducible refine Exists.elim kf (fun Ae kf => ?_)
  with_reducible refine Exists.elim kf (fun ce kf => ?_)
  have eE := kf.1
  clear kf
  have hml := places_len s.size (Mt (L.map Prod.fst) s k J)
  have hmm := fun j => ml_mem (L := L.map Prod.fst) ok (s := s) (k := k) (i := J) (j := j) (by rw [List.length_map]; exact hk) hjs.1
  have hmi := fun j hj => Mt_in (L := L.map Prod.fst) ok (s := s) k (by rw [List.length_map]; exact hk) J j hjs.1 hj
  change (ml (L.map Prod.fst) s k J).length ≤ _ at hml
  generalize ml (L.map Prod.fst) s k J = me at *
  subst eE
  have l2b : h.n ≤ h2.n := by omega
  have hcc : a.2.2.1.length ≤ l0.length + cntB N (inF (a.2.2.1 ++ [])) := by rw [List.append_nil]; exact hcnt
  simp (maxSteps := 1000000) -implicitDefEqProofs only [push_cast, seval]
  refine WC.loopA (by kernel_rfl) [2, 44] [12, 45, 46, 47, 48, 49, 50, 51, 52, 53, 54, 55, 56, 57, 58, 59, 60] (fun b : Value × Nat × List Nat => [b.1, .int .i64 (b.2.1 : Nat)]) (fun b h' => (b.2.1 ≤ me.length ∧ (∀ j ∈ a.2.2.1 ++ b.2.2, j ≤ s.size ∧ ∃ x ∈ l0, Rt (Mt (L.map Prod.fst) s k) x j) ∧ (∀ p (hp : p < me.length), p < b.2.1 → me[p] ∈ a.2.2.1 ++ b.2.2) ∧ (a.2.2.1 ++ b.2.2).length ≤ l0.length + cntB N (inF (a.2.2.1 ++ b.2.2))) ∧ (Mm h' mp mr vP L s es3 ∧ Mo b0 mr h h' es0 es3) ∧ (GrL b0 h' b.1 1 ((a.2.2.1 ++ b.2.2).map encNa).flatten ∧ Apart es3 b.1 ∧ ¬ atBlock b.1 h.n) ∧ h'.ob h.n = .cells (bT N (inF (a.2.2.1 ++ b.2.2))) .solo h.n ∧ h.n < h'.n ∧ RdV h' (.slice Ae me.length ce) 1 encNa me) (fun b => me.length - b.2.1) (a.1, 0, []) (by rw [eA]; kernel_rfl) ⟨⟨Nat.zero_le _, by simpa using hsnd, fun p hp h0 => absurd h0 (Nat.not_lt_zero p), by rw [List.append_nil]; exact hcnt⟩, ⟨m3, mo3'⟩, ⟨by rw [List.append_nil]; exact gr3, ap3, nv2⟩, by rw [List.append_nil]; exact e3, l3, re3⟩ ?_
  clear gr3 ap3 m3 e3 l3 re3 mo3'
  intro b g4 h4 hJ
  have hq := hJ.1.1
  have hsnd4 := hJ.1.2.1
  have hin4 := hJ.1.2.2.1
  have hcnt4 := hJ.1.2.2.2
  have m4 := hJ.2.1.1
  have mo4 := hJ.2.1.2
  have gr4 := hJ.2.2.1.1
  have ap4 := hJ.2.2.1.2.1
  have nv4 := hJ.2.2.1.2.2
  have e4 := hJ.2.2.2.1
  have l4 := hJ.2.2.2.2.1
  have re4 := hJ.2.2.2.2.2
  clear hJ
  have hcb4 := cntB_le N (inF (a.2.2.1 ++ b.2.2))
  simp (maxSteps := 1000000) -implicitDefEqProofs only [push_cast, seval]
  with_reducible refine bcase_d (fun hb4 => ?_) (fun hb4 => ?_)
  rotate_left
  · have eq : b.2.1 = me.length := by omega
    have hall : ∀ j, Mt (L.map Prod.fst) s k J j → j ∈ a.2.2.1 ++ b.2.2 := fun j hj => by
      obtain ⟨p, hp, rfl⟩ := List.getElem_of_mem ((hmm j).2 hj)
      exact hin4 p hp (by omega)
    simp (maxSteps := 1000000) -implicitDefEqProofs only [push_cast, seval]
    rw [wrapSucc (by omega)]
    refine ⟨(b.1, a.2.1 + 1, a.2.2.1 ++ b.2.2, es3), by kernel_rfl, ⟨⟨by show a.2.1 + 1 ≤ (a.2.2.1 ++ b.2.2).length; rw [List.length_append]; omega, hsnd4, fun x hx => List.mem_append_left _ (hsub x hx), hcl' b.2.2 hall, hcnt4⟩, ⟨m4, mo4⟩, ⟨gr4, ap4, nv4⟩, apc3, e4, l4⟩, by show l0.length + N - (a.2.1 + 1) < l0.length + N - a.2.1; omega⟩
  have hq' : b.2.1 < me.length := by omega
  have rk := rdN re4 hq' rfl
  have hjm := (hmm me[b.2.1]).1 (List.getElem_mem hq')
  have hji := hmi me[b.2.1] hjm
  have hnext : ∀ l' : List Nat, me[b.2.1] ∈ a.2.2.1 ++ l' → (∀ x ∈ a.2.2.1 ++ b.2.2, x ∈ a.2.2.1 ++ l') → ∀ p (hp : p < me.length), p < b.2.1 + 1 → me[p] ∈ a.2.2.1 ++ l' := fun l' h1 h2 p hp hp1 => by
    by_cases e : p = b.2.1
    · subst e; exact h1
    · exact h2 _ (hin4 p hp (by omega))
  generalize me[b.2.1] = T at *
  with_reducible refine Exists.elim rk (fun id4 hv => ?_)
  with_reducible refine Exists.elim hv (fun off4 hv => ?_)
  have ev4 := hv.1
  have vlt4 := hv.2.1
  have vrd4 := hv.2.2
  clear hv rk
  subst ev4
  have hgt : rd1 h4 h.n (0 + T * 1) = some (.bool (inF (a.2.2.1 ++ b.2.2) T)) := by rw [rd1_of e4, rd1O_cells, Nat.zero_add, Nat.mul_one, bT_get _ (by omega)]
  have hgt2 : rd1 h4 h.n (T * 1) = some (.bool (inF (a.2.2.1 ++ b.2.2) T)) := by rw [rd1_of e4, rd1O_cells, Nat.mul_one, bT_get _ (by omega)]
  simp (maxSteps := 1000000) -implicitDefEqProofs only [push_cast, seval, vrd4, vlt4, hgt, hgt2, l4]
  repeat (with_reducible refine And.intro ?_ ?_; · (first | omega | decide))
  cases hT : inF (a.2.2.1 ++ b.2.2) T
  rotate_left
  · have hTm : T ∈ a.2.2.1 ++ b.2.2 := by simpa [inF] using hT
    simp (maxSteps := 1000000) -implicitDefEqProofs only [push_cast, seval]
    rw [wrapSucc (by omega)]
    exact ⟨(b.1, b.2.1 + 1, b.2.2), by kernel_rfl, ⟨⟨by show b.2.1 + 1 ≤ _; omega, hsnd4, hnext b.2.2 hTm (fun x hx => hx), hcnt4⟩, ⟨m4, mo4⟩, ⟨gr4, ap4, nv4⟩, e4, l4, re4⟩, by show me.length - (b.2.1 + 1) < _; omega⟩
  have hTm : T ∉ a.2.2.1 ++ b.2.2 := by simpa [inF] using hT
  have hbl : T + 1 ≤ (bT N (inF (a.2.2.1 ++ b.2.2))).length := by rw [bT_len]; omega
  simp (maxSteps := 1000000) -implicitDefEqProofs only [push_cast, seval, e4, rd_of e4, rd1_of e4, l4, vrd4, vlt4]
  repeat (with_reducible refine And.intro ?_ ?_; · (first | omega | decide))
  rw [Nat.mul_one T, bT_set, updB_inF]
  have hcs := cntB_snoc hTm (m := N) (by omega)
  have e5 : (h4.set h.n (.cells (bT N (inF (a.2.2.1 ++ b.2.2 ++ [T]))) .solo h.n)).ob h.n = _ := set_same _ _
  have f5 : ∀ j, j ≠ h.n → (h4.set h.n (.cells (bT N (inF (a.2.2.1 ++ b.2.2 ++ [T]))) .solo h.n)).ob j = h4.ob j := fun j hj => set_ne _ hj
  have n5 : (h4.set h.n (.cells (bT N (inF (a.2.2.1 ++ b.2.2 ++ [T]))) .solo h.n)).n = h4.n := rfl
  generalize (h4.set h.n (.cells (bT N (inF (a.2.2.1 ++ b.2.2 ++ [T]))) .solo h.n)) = h5 at *
  have hc5 : ∀ e ∈ es3, ∀ c, atBlock e.2 c → c ≠ h.n := fun e he c hc e2 => apc3 e he c hc e2.symm
  have m5 : Mm h5 mp mr vP L s es3 := m4.but bs (by omega) (fun j hj => f5 j (by omega)) (fun e he c hc => f5 c (hc5 e he c hc))
  have mo5 : Mo b0 mr h h5 es0 es3 := ⟨by have := mo4.n; omega, fun j hj hm => (f5 j (by omega)).trans (mo4.ob j hj hm), mo4.new⟩
  have gr5 : GrL b0 h5 b.1 1 ((a.2.2.1 ++ b.2.2).map encNa).flatten := gr4.keep (by omega) (fun j hj => f5 j (fun e => nv4 (e ▸ hj)))
  have re5 : RdV h5 (.slice (some ⟨id4, off4, none⟩) me.length ce) 1 encNa me := re4.keep (by omega) (fun j hj => f5 j (fun e => by
    obtain ⟨x, hx, hx2⟩ := me3
    exact hc5 x hx j (by rw [hx2]; exact hj) e))
  have hfl : ((a.2.2.1 ++ b.2.2).map encNa).flatten.length / 1 = (a.2.2.1 ++ b.2.2).length := by rw [flat_len (enc := encNa) (k := 1) _ (fun _ => rfl)]; omega
  have hgl : GrL b0 (h5.alloc (.cells [.int .i64 (T : Nat)] .solo h5.n)) b.1 1 ((a.2.2.1 ++ b.2.2).map encNa).flatten := gr5.pre ((Pre.refl _).alloc _)
  rw [← n5]
  refine GrL.app (n0 := b0) si26 (by decide) (by decide) (notInt_sl und26) hgl (by show b0 ≤ h5.n + 1; omega) (asrc_new _ 1 1 1 rfl) rfl (by rw [hfl]; omega) (fun v' h6 g6 n6 f6 b6 => ?_)
  have n6' : h5.n + 1 ≤ h6.n := n6
  have same6 : ∀ j, j < h5.n → ¬ atBlock b.1 j → h6.ob j = h5.ob j := fun j hj hv => (f6 j (Nat.lt_succ_of_lt hj) hv).trans (alloc_lt _ hj)
  have lowB : ∀ j, j < b0 → ¬ atBlock b.1 j := fun j hj e => by have := (gr5.gr.lt e).1; omega
  have m6 : Mm h6 mp mr vP L s es3 := m5.but bs (by omega) (fun j hj => same6 j (by omega) (lowB j hj)) (fun e he c hc => by
    obtain ⟨k', i', _, _, _, r, _⟩ := m5.ent e he
    exact same6 c (r.lt hc) (ap4 e he c hc))
  have mo6 : Mo b0 mr h h6 es0 es3 := ⟨by have := mo5.n; omega, fun j hj hm => (same6 j (by omega) (lowB j hj)).trans (mo5.ob j hj hm), mo5.new⟩
  have e6 := (same6 h.n (by omega) nv4).trans e5
  have re6 : RdV h6 (.slice (some ⟨id4, off4, none⟩) me.length ce) 1 encNa me := re5.keep (by omega) (fun j hj => same6 j (re5.lt hj) (fun e => by
    obtain ⟨x, hx, hx2⟩ := me3
    exact ap4 x hx j (by rw [hx2]; exact hj) e))
  have b6' : ∀ c, atBlock v' c → h5.n + 1 ≤ c := b6
  have ap6 : Apart es3 v' := Apart.fresh m5.ent (fun c e => by have := b6' c e; omega)
  have nv6 : ¬ atBlock v' h.n := fun e => by have := b6' _ e; omega
  rw [show [Value.int IntKind.i64 (T : Nat)] = ([T].map encNa).flatten from rfl, ← List.flatten_append, ← List.map_append, List.append_assoc] at g6
  simp (maxSteps := 1000000) -implicitDefEqProofs only [push_cast, seval]
  rw [wrapSucc (by omega)]
  rw [List.append_assoc] at e6 hcs
  refine ⟨(v', b.2.1 + 1, b.2.2 ++ [T]), by kernel_rfl, ⟨⟨by show b.2.1 + 1 ≤ _; omega, fun j hj => ?_, hnext (b.2.2 ++ [T]) (by simp) (fun x hx => by rw [← List.append_assoc]; exact List.mem_append_left _ hx), ?_⟩, ⟨m6, mo6⟩, ⟨g6, ap6, nv6⟩, e6, by omega, re6⟩, by show me.length - (b.2.1 + 1) < _; omega⟩
  · have hj' : j ∈ a.2.2.1 ++ b.2.2 ++ [T] := by rw [List.append_assoc]; exact hj
    rcases List.mem_append.1 hj' with h1 | h1
    · exact hsnd4 j h1
    · obtain rfl : j = T := by simpa using h1
      exact ⟨hji.2, by obtain ⟨x, hx, r⟩ := hjs.2; exact ⟨x, hx, r.step hjm⟩⟩
  · show (a.2.2.1 ++ (b.2.2 ++ [T])).length ≤ l0.length + cntB N (inF (a.2.2.1 ++ (b.2.2 ++ [T])))
    rw [hcs, ← List.append_assoc, List.length_append]
    simp only [List.length_cons, List.length_nil]
    omega
end Go.Proofs.Ytciajhpeikemoaa
namespace Go.Proofs.Ytciajhpeikemoaa
open Go Go.Sim Go.Proofs
set_option linter.unusedSimpArgs false
set_option linter.unusedVariables false
set_option maxRecDepth 100000
set_option maxHeartbeats 1000000
theorem azeros_to {P : Program} {h : AH} {t u e : TypeId} {q : IntKind} {s b : Nat} {z : List Value} {ag : Bool} {c : Nat} {n : Int} {K : Value → AH → Prop} (hs : si P t = some (e, ⟨s, b, z, ag⟩)) (hu : P.underlying u = some (.int q)) (hpos : 0 < s) (hby : b ≤ 256) (h0 : 0 < n) (h1 : n < 274877906944)
    (hk : K (.slice (some ⟨h.n, 0, none⟩) n.toNat s) (h.alloc (.cells (zerosL (n.toNat * s) z) .solo h.n))) : aappend P h t u (.slice none 0 c) (.int .i64 n) K := by
  show azeros P h t u _ n K
  unfold azeros
  rw [hs, hu]
  exact ⟨hpos, hby, h0, h1, hk⟩
theorem acut_nil0 {P : Program} {t e : TypeId} {i : TI} {k : Nat} {K : Value → Prop} (hs : si P t = some (e, i)) (hk : K (.slice none 0 k)) : acut P t (.slice none 0 k) none (some (.int .i64 0)) none K := by
  unfold acut
  rw [hs]
  exact ⟨rfl, rfl, rfl, hk⟩
theorem Grow_c (n : Nat) (hn : n ≤ 1000000) (h : AH) : CC Try.prog 195 [.slice none 0 0, .int .i64 (n : Nat)] h (fun v h' => (n = 0 ∧ v = .slice none 0 0 ∧ h' = h) ∨ (0 < n ∧ v = .slice (some ⟨h.n, 0, none⟩) 0 1 ∧ ∃ zs, h' = h.alloc (.cells zs .solo h.n) ∧ zs.length = n)) := by
  refine CC.ofN Try.func195 Try.ntmps195 Try.results195 rfl (by decide) (by kernel_rfl) ?_
  simp (maxSteps := 1000000) -implicitDefEqProofs only [push_cast, seval]
  with_reducible refine bcase_d (fun hb => ?_) (fun hb => ?_)
  · exfalso; omega
  have w0 : IntKind.i64.wrap (0 : Int) = 0 := rfl
  have w1 : IntKind.i64.wrap ((n : Int)) = n := w64 (by omega) (by omega)
  simp (maxSteps := 1000000) -implicitDefEqProofs only [push_cast, seval, w0, w1, Int.sub_zero]
  with_reducible refine bcase_d (fun hb2 => ?_) (fun hb2 => ?_)
  rotate_left
  · have : n = 0 := by omega
    subst this
    simp (maxSteps := 1000000) -implicitDefEqProofs only [push_cast, seval]
    exact .inl trivial
  simp (maxSteps := 1000000) -implicitDefEqProofs only [push_cast, seval]
  with_reducible refine acut_nil0 si26 ?_
  simp (maxSteps := 1000000) -implicitDefEqProofs only [push_cast, seval]
  refine azeros_to si26 und3 (by decide) (by decide) (by omega) (by omega) ?_
  have hz : (zerosL ((n : Int).toNat * 1) [.int .i64 0]).length = n := by rw [zerosL_length]; omega
  generalize zerosL ((n : Int).toNat * 1) [.int .i64 0] = zs at *
  have hn0 : 0 < n := by omega
  simp (maxSteps := 1000000) -implicitDefEqProofs only [push_cast, seval]
  refine And.intro (by omega) ?_
  exact .inr ⟨hn0, zs, rfl, hz⟩
theorem Grow_to (n : Nat) (hn : n ≤ 1000000) (h : AH) {K : Value → AH → Prop} (h0 : n = 0 → K (.slice none 0 0) h) (h1 : 0 < n → ∀ zs : List Value, zs.length = n → K (.slice (some ⟨h.n, 0, none⟩) 0 1) (h.alloc (.cells zs .solo h.n))) : CC Try.prog 195 [.slice none 0 0, .int .i64 (n : Nat)] h K :=
  (Grow_c n hn h).mono (fun v h' hv => by
    rcases hv with ⟨a, rfl, rfl⟩ | ⟨a, rfl, zs, rfl, b⟩
    · exact h0 a
    · exact h1 a zs b)
/-- An append to the empty head of a slice that was just made. -/
theorem app_head {P : Program} {h : AH} {t u e : TypeId} {s b : Nat} {z : List Value} {ag : Bool} {zs new : List Value} {m : Nat} {x : Value} {K : Value → AH → Prop}
    (lin : Lin h) (hs : si P t = some (e, ⟨s, b, z, ag⟩)) (hpos : 0 < s) (hby : b ≤ 256) (hu : notInt (P.underlying u)) (hz : 0 < zs.length) (hx : asrc (h.alloc (.cells zs .solo h.n)) s x = some (m, new)) (hm : new.length = m * s) (hb : m < 274877906944)
    (hk : ∀ v' h', GrL h.n h' v' s new → Pre h h' → K v' h') :
    aappend P (h.alloc (.cells zs .solo h.n)) t u (.slice (some ⟨h.n, 0, none⟩) 0 s) x K := by
  refine aapp_to ?_
  unfold aapp
  rw [hs]
  simp only [hx]
  refine ⟨hpos, hby, hu.1, hu.2, trivial, by omega, ?_⟩
  have e0 : (h.alloc (.cells zs .solo h.n)).ob h.n = .cells zs .solo h.n := alloc_same _
  have hap : apd (h.alloc (.cells zs .solo h.n)) h.n 0 0 s new = some (((h.alloc (.cells zs .solo h.n)).kill h.n).alloc (.cells new .tip h.n)) := by
    unfold apd
    rw [e0]
    simp [show ¬ (0 = zs.length) by omega, hz]
  simp only [hap]
  have e1 : (((h.alloc (.cells zs .solo h.n)).kill h.n).alloc (.cells new .tip h.n)).ob (h.n + 1) = .cells new .tip h.n := alloc_same (h := (h.alloc (.cells zs .solo h.n)).kill h.n) _
  rw [Nat.zero_add]
  refine hk _ _ ⟨.inr ⟨h.n + 1, 0, m, rfl, by omega, Nat.lt_succ_self _, hm, new, .tip, h.n, e1, .inr rfl, by rw [hm]; omega, rfl⟩, fun i hi l hl => ?_⟩ ⟨by show h.n ≤ h.n + 1 + 1; omega, fun i hi => ?_⟩
  · have e' : h.n + 1 = i := hi
    subst e'
    obtain ⟨a, s', e2, _⟩ := hl.ob
    rw [e1] at e2
    injection e2 with _ _ e2
    omega
  · rw [alloc_lt _ (show i < ((h.alloc (.cells zs .solo h.n)).kill h.n).n from Nat.lt_succ_of_lt hi)]
    have e3 : (h.alloc (.cells zs .solo h.n)).ob i = h.ob i := alloc_lt _ hi
    unfold AH.kill
    simp only [e3]
    rw [if_neg (fun e => by have := lin i _ e; omega)]
theorem Concat_c (va vb : Value) (la lb : List Nat) (q : Nat) (h : AH) (ra : RdV h va 1 encNa la) (rb : RdV h vb 1 encNa lb) (e : h.ob q = .cells [va, vb] .solo q) (hq : q < h.n) (hla : la.length ≤ 200000) (hlb : lb.length ≤ 200000) :
    CC Try.prog 168 [.slice (some ⟨q, 0, none⟩) 2 1] h (fun v h' => GrL h.n h' v 1 ((la ++ lb).map encNa).flatten ∧ Pre h h') := by
  refine CC.withLin (fun lin => ?_)
  obtain ⟨A, ca, rfl, rA⟩ := ra.rde (fun _ => rfl)
  obtain ⟨B, cb, rfl, rB⟩ := rb.rde (fun _ => rfl)
  obtain ⟨sz, hsz⟩ : ∃ sz : Nat → Nat, sz = fun i => ([la, lb].take i).flatten.length := ⟨_, rfl⟩
  have s0 : sz 0 = 0 := by rw [hsz]; rfl
  have s1 : sz 1 = la.length := by rw [hsz]; simp
  have s2 : sz 2 = la.length + lb.length := by rw [hsz]; simp
  refine CC.ofN Try.func168 Try.ntmps168 Try.results168 rfl (by decide) (by kernel_rfl) ?_
  simp (maxSteps := 1000000) -implicitDefEqProofs only [push_cast, seval]
  refine WC.loopA (by kernel_rfl) [3, 11] [5, 12, 13, 14, 15, 16, 17, 18, 19, 20, 21, 22] (fun i : Nat => [.int .i64 (sz i : Nat), .int .i64 (i : Nat)]) (fun i h' => i ≤ 2 ∧ h' = h) (fun i => 2 - i) 0 (by rw [s0]; kernel_rfl) ⟨by omega, rfl⟩ ?_
  intro i g1 h1 hJ
  have hi := hJ.1
  have e1 := hJ.2
  clear hJ
  subst e1
  have x0 : IntKind.i64.wrap ((sz 0 : Int) + la.length) = (sz 1 : Nat) := by rw [s0, s1, w64 (by omega) (by omega)]; omega
  have x1 : IntKind.i64.wrap ((sz 1 : Int) + lb.length) = (sz 2 : Nat) := by rw [s1, s2, w64 (by omega) (by omega)]; omega
  have h3 : i = 0 ∨ i = 1 ∨ i = 2 := by omega
  with_reducible refine Or.elim h3 (fun e3 => ?_) (fun h3 => ?_)
  · subst e3
    simp (maxSteps := 1000000) -implicitDefEqProofs only [push_cast, seval, e, rd_of e, rd1_of e, hq, x0]
    with_reducible refine bcase_d (fun hb => ?_) (fun hb => ?_)
    · exfalso; omega
    simp (maxSteps := 1000000) -implicitDefEqProofs only [push_cast, seval]
    exact ⟨1, by kernel_rfl, by omega, by omega⟩
  with_reducible refine Or.elim h3 (fun e3 => ?_) (fun e3 => ?_)
  · subst e3
    simp (maxSteps := 1000000) -implicitDefEqProofs only [push_cast, seval, e, rd_of e, rd1_of e, hq, x1]
    with_reducible refine bcase_d (fun hb => ?_) (fun hb => ?_)
    · exfalso; omega
    simp (maxSteps := 1000000) -implicitDefEqProofs only [push_cast, seval]
    exact ⟨2, by kernel_rfl, by omega, by omega⟩
  subst e3
  simp (maxSteps := 1000000) -implicitDefEqProofs only [push_cast, seval]
  with_reducible refine Grow_to (sz 2) (by omega) h1 (fun h0 => ?_) (fun h0 zs hz => ?_)
  · simp (maxSteps := 1000000) -implicitDefEqProofs only [push_cast, seval]
    refine WC.loopA (by kernel_rfl) [6, 27] [8, 28, 29, 30, 31, 32, 33, 34] (fun a : Nat × Value => [a.2, .int .i64 (a.1 : Nat)]) (fun a h' => (a.1 ≤ 2 ∧ GrL h1.n h' a.2 1 (([la, lb].take a.1).flatten.map encNa).flatten) ∧ Pre h1 h') (fun a => 2 - a.1) (0, .slice none 0 0) (by kernel_rfl) ⟨⟨by omega, GrL.nil _ _ _ _⟩, Pre.refl _⟩ ?_
    intro a g2 h2 hJ
    have ai := hJ.1.1
    have aj := hJ.1.2
    have p2 := hJ.2
    clear hJ
    have e2 := (p2.ob q hq).trans e
    have q2 : q < h2.n := Nat.lt_of_lt_of_le hq p2.n
    have ra2 := ra.pre p2
    have rb2 := rb.pre p2
    have h3 : a.1 = 0 ∨ a.1 = 1 ∨ a.1 = 2 := by omega
    with_reducible refine Or.elim h3 (fun e3 => ?_) (fun h3 => ?_)
    · rw [e3] at aj
      simp (maxSteps := 1000000) -implicitDefEqProofs only [push_cast, seval, e2, rd_of e2, rd1_of e2, q2, e3]
      refine GrL.app (n0 := h1.n) si26 (by decide) (by decide) (notInt_sl und26) aj p2.n ra2.asrc (flat_len (k := 1) la (fun _ => rfl)) (by simp; omega) (fun v' h3 g3 n3 f3 b3 => ?_)
      simp (maxSteps := 1000000) -implicitDefEqProofs only [push_cast, seval]
      exact ⟨(1, v'), by kernel_rfl, ⟨⟨by show (1 : Nat) ≤ 2; omega, by simpa using g3⟩, ⟨by have := p2.n; omega, fun j hj => (f3 j (Nat.lt_of_lt_of_le hj p2.n) (fun e => by have := (aj.gr.lt e).1; omega)).trans (p2.ob j hj)⟩⟩, by show 2 - 1 < 2 - a.1; omega⟩
    with_reducible refine Or.elim h3 (fun e3 => ?_) (fun e3 => ?_)
    · rw [e3] at aj
      simp (maxSteps := 1000000) -implicitDefEqProofs only [push_cast, seval, e2, rd_of e2, rd1_of e2, q2, e3]
      have hfl : (([la, lb].take 1).flatten.map encNa).flatten.length / 1 = la.length := by rw [flat_len (enc := encNa) (k := 1) _ (fun _ => rfl)]; simp
      refine GrL.app (n0 := h1.n) si26 (by decide) (by decide) (notInt_sl und26) aj p2.n rb2.asrc (flat_len (k := 1) lb (fun _ => rfl)) (by rw [hfl]; omega) (fun v' h3 g3 n3 f3 b3 => ?_)
      have g4 : GrL h1.n h3 v' 1 (([la, lb].take 2).flatten.map encNa).flatten := by
        have : (([la, lb].take 2).flatten.map encNa).flatten = (([la, lb].take 1).flatten.map encNa).flatten ++ (lb.map encNa).flatten := by simp
        rw [this]; exact g3
      simp (maxSteps := 1000000) -implicitDefEqProofs only [push_cast, seval]
      exact ⟨(2, v'), by kernel_rfl, ⟨⟨by show (2 : Nat) ≤ 2; omega, g4⟩, ⟨by have := p2.n; omega, fun j hj => (f3 j (Nat.lt_of_lt_of_le hj p2.n) (fun e => by have := (aj.gr.lt e).1; omega)).trans (p2.ob j hj)⟩⟩, by show 2 - 2 < 2 - a.1; omega⟩
    rw [e3] at aj
    simp (maxSteps := 1000000) -implicitDefEqProofs only [push_cast, seval, e3]
    exact ⟨by have := aj; simpa using this, p2⟩
  · simp (maxSteps := 1000000) -implicitDefEqProofs only [push_cast, seval]
    refine WC.loopA (by kernel_rfl) [6, 27] [8, 28, 29, 30, 31, 32, 33, 34] (fun a : Nat × Value => [a.2, .int .i64 (a.1 : Nat)]) (fun a h' => (a.1 ≤ 2 ∧ (a.1 = 0 → a.2 = .slice (some ⟨h1.n, 0, none⟩) 0 1 ∧ h' = h1.alloc (.cells zs .solo h1.n)) ∧ (0 < a.1 → GrL h1.n h' a.2 1 (([la, lb].take a.1).flatten.map encNa).flatten)) ∧ Pre h1 h') (fun a => 2 - a.1) (0, .slice (some ⟨h1.n, 0, none⟩) 0 1) (by kernel_rfl) ⟨⟨by omega, fun _ => ⟨rfl, rfl⟩, fun h0 => absurd h0 (Nat.lt_irrefl 0)⟩, (Pre.refl _).alloc _⟩ ?_
    intro a g2 h2 hJ
    have ai := hJ.1.1
    have aj := hJ.1.2
    have p2 := hJ.2
    clear hJ
    have e2 := (p2.ob q hq).trans e
    have q2 : q < h2.n := Nat.lt_of_lt_of_le hq p2.n
    have ra2 := ra.pre p2
    have rb2 := rb.pre p2
    have h3 : a.1 = 0 ∨ a.1 = 1 ∨ a.1 = 2 := by omega
    with_reducible refine Or.elim h3 (fun e3 => ?_) (fun h3 => ?_)
    · rw [e3] at aj
      simp (maxSteps := 1000000) -implicitDefEqProofs only [push_cast, seval, e2, rd_of e2, rd1_of e2, q2, e3]
      have aj1 := (aj.1 rfl).1
      have aj2 := (aj.1 rfl).2
      clear aj
      subst aj2
      simp (maxSteps := 1000000) -implicitDefEqProofs only [push_cast, seval, aj1]
      refine app_head lin si26 (by decide) (by decide) (notInt_sl und26) (by omega) ra2.asrc (flat_len (k := 1) la (fun _ => rfl)) (by omega) (fun v' h3 g3 p3 => ?_)
      simp (maxSteps := 1000000) -implicitDefEqProofs only [push_cast, seval]
      exact ⟨(1, v'), by kernel_rfl, ⟨⟨by show (1 : Nat) ≤ 2; omega, fun h0 => absurd h0 (by show ¬ (1 : Nat) = 0; omega), fun _ => by simpa using g3⟩, p3⟩, by show 2 - 1 < 2 - a.1; omega⟩
    with_reducible refine Or.elim h3 (fun e3 => ?_) (fun e3 => ?_)
    · rw [e3] at aj
      simp (maxSteps := 1000000) -implicitDefEqProofs only [push_cast, seval, e2, rd_of e2, rd1_of e2, q2, e3]
      have aj := aj.2 (by omega)
      have hfl : (([la, lb].take 1).flatten.map encNa).flatten.length / 1 = la.length := by rw [flat_len (enc := encNa) (k := 1) _ (fun _ => rfl)]; simp
      refine GrL.app (n0 := h1.n) si26 (by decide) (by decide) (notInt_sl und26) aj p2.n rb2.asrc (flat_len (k := 1) lb (fun _ => rfl)) (by rw [hfl]; omega) (fun v' h3 g3 n3 f3 b3 => ?_)
      have g4 : GrL h1.n h3 v' 1 (([la, lb].take 2).flatten.map encNa).flatten := by
        have : (([la, lb].take 2).flatten.map encNa).flatten = (([la, lb].take 1).flatten.map encNa).flatten ++ (lb.map encNa).flatten := by simp
        rw [this]; exact g3
      simp (maxSteps := 1000000) -implicitDefEqProofs only [push_cast, seval]
      exact ⟨(2, v'), by kernel_rfl, ⟨⟨by show (2 : Nat) ≤ 2; omega, fun h0 => absurd h0 (by show ¬ (2 : Nat) = 0; omega), fun _ => g4⟩, ⟨by have := p2.n; omega, fun j hj => (f3 j (Nat.lt_of_lt_of_le hj p2.n) (fun e => by have := (aj.gr.lt e).1; omega)).trans (p2.ob j hj)⟩⟩, by show 2 - 2 < 2 - a.1; omega⟩
    rw [e3] at aj
    simp (maxSteps := 1000000) -implicitDefEqProofs only [push_cast, seval, e3]
    exact ⟨by have := aj.2 (by omega); simpa using this, p2⟩
end Go.Proofs.Ytciajhpeikemoaa
namespace Go.Proofs.Ytciajhpeikemoaa
open Go Go.Sim Go.Proofs
set_option linter.unusedSimpArgs false
set_option linter.unusedVariables false
set_option maxRecDepth 100000
set_option maxHeartbeats 1000000
theorem copyIntsG_c (x : Value) (l : List Nat) (h : AH) (r : RdV h x 1 encNa l) (hl : l.length ≤ 1000000) :
    CC Try.prog 99 [x] h (fun v h' => GrL h.n h' v 1 (l.map encNa).flatten ∧ Pre h h') := by
  have p0 : Pre h (h.alloc (.cells [] .solo h.n)) := (Pre.refl h).alloc _
  have g0 : GrL h.n (h.alloc (.cells [] .solo h.n)) (.slice (some ⟨h.n, 0, none⟩) 0 1) 1 [] := GrL.new (Nat.le_refl _) [] 0 1 rfl
  refine CC.ofN Try.func99 Try.ntmps99 Try.results99 rfl (by decide) (by kernel_rfl) ?_
  simp (maxSteps := 1000000) -implicitDefEqProofs only [push_cast, seval]
  refine GrL.app (n0 := h.n) si26 (by decide) (by decide) (notInt_sl und26) g0 p0.n (r.pre p0).asrc (flat_len (k := 1) l (fun _ => rfl)) (by simp; omega) (fun v' h3 g3 n3 f3 b3 => ?_)
  rw [List.nil_append] at g3
  simp (maxSteps := 1000000) -implicitDefEqProofs only [push_cast, seval]
  refine ⟨g3, ⟨by have := p0.n; omega, fun j hj => (f3 j (Nat.lt_of_lt_of_le hj p0.n) (fun e => by have e' : h.n = j := e; omega)).trans (p0.ob j hj)⟩⟩
/-- What found owes. -/
def FndP (mp mr : Nat) (vP : Value) (L : List (Pc × Value)) (s : ByteArray) (k i : Nat) (h : AH) (es : List (Value × Value)) (v : Value) (h' : AH) : Prop :=
  ∃ (es' : List (Value × Value)) (l : List Nat), Mm h' mp mr vP L s es' ∧ Mo h.n mr h h' es es' ∧ GrL h.n h' v 1 (l.map encNa).flatten ∧ Apart es' v ∧ (∀ j, j ∈ l ↔ Mt (L.map Prod.fst) s k i j) ∧ l.length ≤ (s.size + 1) * (s.size + 1) + 2 * (s.size + 1)
theorem found_c (mp mr : Nat) (vP : Value) (L : List (Pc × Value)) (s : ByteArray) (k : Nat) (hk : k < L.length) (ok : Okp (L.map Prod.fst)) (E : ∀ j, j < k → EndsOk mp mr vP L s j) (x : Pc) (kv : Value) (hx : pcAt (L.map Prod.fst) k = x) (h : AH) (es : List (Value × Value)) (i : Nat) (m : Mm h mp mr vP L s es) (hi : i ≤ s.size) (hs : s.size ≤ 100000) (rk : RdV h kv 1 encNa x.kids) :
    CC Try.prog 128 [.pointer (some ⟨mp, 0, none⟩), .agg #[.int .i64 (x.op : Nat), .string x.text, kv], .int .i64 (i : Nat)] h (fun v h' => FndP mp mr vP L s k i h es v h') := by
  have hk' : k < (L.map Prod.fst).length := by rw [List.length_map]; exact hk
  have okx := pcAt_ok ok hk'
  have hM := Mt_eq ok (s := s) hk'
  rw [hx] at okx hM
  have kone := rk.one
  obtain ⟨A, cA, rfl, _⟩ := rk.rde (fun _ => rfl)
  have p1 : Pre h (h.alloc (.cells [.int .i64 (x.op : Nat), .string x.text, .slice A x.kids.length cA] .solo h.n)) := (Pre.refl h).alloc _
  have e1 : (h.alloc (.cells [.int .i64 (x.op : Nat), .string x.text, .slice A x.kids.length cA] .solo h.n)).ob h.n = _ := alloc_same _
  have n1 : (h.alloc (.cells [.int .i64 (x.op : Nat), .string x.text, .slice A x.kids.length cA] .solo h.n)).n = h.n + 1 := rfl
  refine CC.ofN Try.func128 Try.ntmps128 Try.results128 rfl (by decide) (by kernel_rfl) ?_
  simp (maxSteps := 1000000) -implicitDefEqProofs only [push_cast, seval]
  generalize (h.alloc (.cells [.int .i64 (x.op : Nat), .string x.text, .slice A x.kids.length cA] .solo h.n)) = h1 at *
  have l1 : h.n < h1.n := by omega
  have m1 := m.pre p1
  simp (maxSteps := 1000000) -implicitDefEqProofs only [push_cast, seval, e1, rd_of e1, rd1_of e1, l1]
  with_reducible refine CC.mono (taken_c x _ mp i vP _ s h1 rfl m1.pt m1.lt hi hs) (fun v h2 hv => ?_)
  have p2 := hv.1
  have hv2 := hv.2
  clear hv
  have m2 := m1.pre p2
  have q2 := p1.trans p2
  have e2 := (p2.ob h.n l1).trans e1
  have l2 : h.n < h2.n := Nat.lt_of_lt_of_le l1 p2.n
  by_cases o1 : 1 ≤ x.op ∧ x.op ≤ 4
  · rw [if_pos o1] at hv2
    with_reducible refine Exists.elim hv2 (fun lv hv => ?_)
    have ev := hv.1
    have g2 := hv.2.1
    have b2 := hv.2.2
    clear hv hv2
    subst ev
    simp (maxSteps := 1000000) -implicitDefEqProofs only [push_cast, seval]
    refine ⟨es, _, m2, Mo.ofPre q2 (Nat.le_refl _), g2.mono (by omega), Apart.fresh m.ent (fun c e => by have := b2 c e; omega), fun j => ?_, ?_⟩
    · rw [hM, stepL (by omega), leaf1 o1]
      split
      · rename_i hc
        simp only [List.mem_singleton]
        exact ⟨fun e => ⟨hc.1, e, hc.2⟩, fun e => e.2.1⟩
      · rename_i hc
        simp only [List.not_mem_nil, false_iff]
        exact fun e => hc ⟨e.1, e.2.2⟩
    · split <;> simp <;> omega
  rw [if_neg o1] at hv2
  subst hv2
  have gO : GrL h.n (h2.alloc (.cells [.int .i64 (i : Nat)] .solo h2.n)) (.slice (some ⟨h2.n, 0, none⟩) 1 1) 1 (([i] : List Nat).map encNa).flatten := GrL.new (h := h2) q2.n [.int .i64 (i : Nat)] 1 1 rfl
  have pO : Pre h2 (h2.alloc (.cells [.int .i64 (i : Nat)] .solo h2.n)) := (Pre.refl _).alloc _
  have bO : ∀ c, atBlock (.slice (some ⟨h2.n, 0, none⟩) 1 1) c → h2.n ≤ c := fun c e => by have e' : h2.n = c := e; omega
  have hll : 1 ≤ (s.size + 1) * (s.size + 1) + 2 * (s.size + 1) := by omega
  have fin0 : (∀ j, ¬ Mt (L.map Prod.fst) s k i j) → FndP mp mr vP L s k i h es (.slice none 0 0) h2 := fun hn => ⟨es, [], m2, Mo.ofPre q2 (Nat.le_refl _), GrL.nil _ _ _ _, Apart.nil _ _, fun j => ⟨fun e => (by cases e), fun e => absurd e (hn j)⟩, by simp⟩
  have fin1 : (∀ j, Mt (L.map Prod.fst) s k i j ↔ j = i) → FndP mp mr vP L s k i h es (.slice (some ⟨h2.n, 0, none⟩) 1 1) (h2.alloc (.cells [.int .i64 (i : Nat)] .solo h2.n)) := fun hn => ⟨es, [i], m2.pre pO, Mo.ofPre (q2.trans pO) (Nat.le_refl _), gO, Apart.fresh m2.ent bO, fun j => by rw [hn]; simp, by simp; omega⟩
  have hmr : h.n ≠ mr := by have := m.mlt; omega
  simp (maxSteps := 1000000) -implicitDefEqProofs only [push_cast, seval, e2, rd_of e2, rd1_of e2, l2]
  by_cases o10 : x.op = 10
  · rw [o10] at e2
    simp (maxSteps := 1000000) -implicitDefEqProofs only [push_cast, seval, o10]
    with_reducible refine bcase_d (fun hb => ?_) (fun hb => ?_)
    · simp (maxSteps := 1000000) -implicitDefEqProofs only [push_cast, seval]
      exact fin0 (fun j hj => by rw [hM, stepL (by omega), leaf10 o10] at hj; omega)
    · simp (maxSteps := 1000000) -implicitDefEqProofs only [push_cast, seval]
      exact fin1 (fun j => by rw [hM, stepL (by omega), leaf10 o10]; exact ⟨fun e => e.2, fun e => ⟨by omega, e⟩⟩)
  have d10 : decide ((x.op : Int) = 10) = false := decide_eq_false (by omega)
  by_cases o11 : x.op = 11
  · have pt2 := m2.pt
    have ptl := m2.lt
    simp (maxSteps := 1000000) -implicitDefEqProofs only [push_cast, seval, d10, o11, pt2, rd_of pt2, rd1_of pt2, ptl]
    with_reducible refine bcase_d (fun hb => ?_) (fun hb => ?_)
    · simp (maxSteps := 1000000) -implicitDefEqProofs only [push_cast, seval]
      exact fin0 (fun j hj => by rw [hM, stepL (by omega), leaf11 o11] at hj; omega)
    · simp (maxSteps := 1000000) -implicitDefEqProofs only [push_cast, seval]
      exact fin1 (fun j => by rw [hM, stepL (by omega), leaf11 o11]; exact ⟨fun e => e.2, fun e => ⟨by omega, e⟩⟩)
  have d11 : decide ((x.op : Int) = 11) = false := decide_eq_false (by omega)
  by_cases o12 : x.op = 12
  · simp (maxSteps := 1000000) -implicitDefEqProofs only [push_cast, seval, d10, d11, o12]
    exact fin1 (fun j => by rw [hM, stepL (by omega), leaf12 o12])
  have d5 : x.op ≠ 5 → decide ((x.op : Int) = 5) = false := fun e => decide_eq_false (by omega)
  have d6 : x.op ≠ 6 → decide ((x.op : Int) = 6) = false := fun e => decide_eq_false (by omega)
  have d7 : x.op ≠ 7 → decide ((x.op : Int) = 7) = false := fun e => decide_eq_false (by omega)
  have d9 : x.op ≠ 9 → decide ((x.op : Int) = 9) = false := fun e => decide_eq_false (by omega)
  have okop := okx.op
  have kk := okx.kids
  by_cases o5 : x.op = 5
  · rw [kidsN, if_pos (.inl o5)] at kk
    have rk0 := rdN (rk.pre q2) (i := 0) (by omega) rfl
    have kl0 : kid x 0 < k := kid_lt okx (by omega)
    have kl1 : kid x 1 < k := kid_lt okx (by omega)
    with_reducible refine Exists.elim rk0 (fun id hv => ?_)
    with_reducible refine Exists.elim hv (fun off hv => ?_)
    have ev := hv.1
    clear hv rk0
    subst ev
    have V : ∀ H, RdV H (.slice (some ⟨id, off, none⟩) x.kids.length cA) 1 encNa x.kids → id < H.n ∧ rd1 H id off = some (.int .i64 (kid x 0 : Nat)) ∧ rd1 H id (off + 1) = some (.int .i64 (kid x 1 : Nat)) := fun H r => by
      obtain ⟨i0, o0, a1, a2, a3⟩ := rdN r (i := 0) (by omega) rfl
      injection a1 with a1
      injection a1 with b1 b2
      subst b1 b2
      rw [kid_get (by omega), Nat.zero_mul, Nat.add_zero] at a3
      obtain ⟨i0', o0', c1, c2, c3⟩ := rdN r (i := 1) (by omega) rfl
      injection c1 with c1
      injection c1 with d1 d2
      subst d1 d2
      rw [kid_get (by omega), Nat.one_mul] at c3
      exact ⟨a2, a3, c3⟩
    have E0 := E _ kl0
    unfold EndsOk at E0
    have E1 := E _ kl1
    unfold EndsOk at E1
    have rkH2 := rk.pre q2
    have V2 := V h2 rkH2
    rw [kk] at e2 rkH2
    simp (maxSteps := 1000000) -implicitDefEqProofs only [push_cast, seval, d10, d11, o5, e2, rd_of e2, rd1_of e2, l2, V2.1, V2.2.1]
    repeat (with_reducible refine And.intro ?_ ?_; · (first | omega | decide))
    with_reducible refine CC.mono (E0 h2 es i m2 hi) (fun v3 h3 hv => ?_)
    with_reducible refine Exists.elim hv (fun es3 hv => ?_)
    have m3 := hv.1
    have mo3 := hv.2.1
    have re3 := hv.2.2.1
    clear hv
    have rkH3 := rkH2.fm mo3.fm m2.mo
    have V3 := V h3 (by rw [kk]; exact rkH3)
    have e3 := (mo3.ob h.n l2 hmr).trans e2
    have l3 : h.n < h3.n := Nat.lt_of_lt_of_le l2 mo3.n
    have mo3' : Mo h.n mr h h3 es es3 := (Mo.ofPre q2 (Nat.le_refl _)).trans mo3 q2.n
    have hml3 := places_len s.size (Mt (L.map Prod.fst) s (kid x 0) i)
    have hmm3 := fun j => ml_mem (L := L.map Prod.fst) ok (s := s) (k := kid x 0) (i := i) (j := j) (by rw [List.length_map]; omega) hi
    have hmi3 := fun j hj => Mt_in (L := L.map Prod.fst) ok (s := s) (kid x 0) (by rw [List.length_map]; omega) i j hi hj
    change (ml (L.map Prod.fst) s (kid x 0) i).length ≤ _ at hml3
    generalize ml (L.map Prod.fst) s (kid x 0) i = me3 at *
    have kf := re3.rde (fun _ => rfl)
    with_reducible refine Exists.elim kf (fun Ae kf => ?_)
    with_reducible refine Exists.elim kf (fun ce kf => ?_)
    have eE := kf.1
    clear kf
    subst eE
    have vb3 : ∀ c, atBlock (.slice Ae me3.length ce) c → c < h3.n := fun c e => re3.lt e
    have hNN : (s.size + 1) * (s.size + 1) ≤ 100001 * 100001 := Nat.mul_le_mul (by omega) (by omega)
    simp (maxSteps := 1000000) -implicitDefEqProofs only [push_cast, seval]
    refine WC.loopA (by kernel_rfl) [7, 45] [10, 46, 47, 48, 49, 50, 51, 52, 53, 54, 55, 56, 57, 58] (fun a : Value × Nat × List Nat × List (Value × Value) => [a.1, .int .i64 (a.2.1 : Nat)]) (fun a h' => (a.2.1 ≤ me3.length ∧ (∀ j, j ∈ a.2.2.1 ↔ ∃ p, ∃ hp : p < me3.length, p < a.2.1 ∧ Mt (L.map Prod.fst) s (kid x 1) me3[p] j) ∧ a.2.2.1.length ≤ a.2.1 * (s.size + 1)) ∧ (Mm h' mp mr vP L s a.2.2.2 ∧ Mo h.n mr h h' es a.2.2.2) ∧ (GrL h.n h' a.1 1 (a.2.2.1.map encNa).flatten ∧ Apart a.2.2.2 a.1 ∧ ∀ c, atBlock (.slice Ae me3.length ce) c → ¬ atBlock a.1 c) ∧ (RdV h' (.slice Ae me3.length ce) 1 encNa me3 ∧ RdV h' (.slice (some ⟨id, off, none⟩) 2 cA) 1 encNa x.kids) ∧ h'.ob h.n = .cells [.int .i64 (x.op : Nat), .string x.text, .slice (some ⟨id, off, none⟩) 2 cA] .solo h.n ∧ h3.n ≤ h'.n ∧ ¬ atBlock a.1 h.n) (fun a => me3.length - a.2.1) (.slice none 0 0, 0, [], es3) (by kernel_rfl) ⟨⟨Nat.zero_le _, fun j => ⟨fun e => (by cases e), fun ⟨p, hp, h0, _⟩ => absurd h0 (Nat.not_lt_zero p)⟩, Nat.zero_le _⟩, ⟨m3, mo3'⟩, ⟨GrL.nil _ _ _ _, Apart.nil _ _, fun c _ e => e.elim⟩, ⟨re3, rkH3⟩, e3, Nat.le_refl _, fun e => e.elim⟩ ?_
    clear m3 mo3' e3 V3
    intro a g4 h4 hJ
    have hq := hJ.1.1
    have hml4 := hJ.1.2.1
    have hln4 := hJ.1.2.2
    have m4 := hJ.2.1.1
    have mo4 := hJ.2.1.2
    have gr4 := hJ.2.2.1.1
    have ap4 := hJ.2.2.1.2.1
    have sep4 := hJ.2.2.1.2.2
    have re4 := hJ.2.2.2.1.1
    have rkH4 := hJ.2.2.2.1.2
    have e4 := hJ.2.2.2.2.1
    have n4 := hJ.2.2.2.2.2.1
    have nb4 := hJ.2.2.2.2.2.2
    clear hJ
    have l4 : h.n < h4.n := by omega
    simp (maxSteps := 1000000) -implicitDefEqProofs only [push_cast, seval]
    with_reducible refine bcase_d (fun hb => ?_) (fun hb => ?_)
    rotate_left
    · have eq : a.2.1 = me3.length := by omega
      simp (maxSteps := 1000000) -implicitDefEqProofs only [push_cast, seval]
      refine ⟨a.2.2.2, a.2.2.1, m4, mo4, gr4, ap4, fun j => ?_, ?_⟩
      · rw [hml4, hM, step5 o5]
        constructor
        · rintro ⟨p, hp, _, r⟩
          exact ⟨_, (hmm3 _).1 (List.getElem_mem hp), r⟩
        · rintro ⟨q, r1, r2⟩
          obtain ⟨p, hp, rfl⟩ := List.getElem_of_mem ((hmm3 q).2 r1)
          exact ⟨p, hp, by omega, r2⟩
      · have : a.2.1 * (s.size + 1) ≤ (s.size + 1) * (s.size + 1) := Nat.mul_le_mul_right _ (by omega)
        omega
    have hq' : a.2.1 < me3.length := by omega
    have rk4 := rdN re4 hq' rfl
    have hT := (hmm3 me3[a.2.1]).1 (List.getElem_mem hq')
    have hTi := hmi3 me3[a.2.1] hT
    have hnx : ∀ (l' : List Nat), (∀ j, j ∈ l' ↔ Mt (L.map Prod.fst) s (kid x 1) me3[a.2.1] j) → ∀ j, j ∈ a.2.2.1 ++ l' ↔ ∃ p, ∃ hp : p < me3.length, p < a.2.1 + 1 ∧ Mt (L.map Prod.fst) s (kid x 1) me3[p] j := fun l' hl j => by
      rw [List.mem_append, hml4, hl]
      constructor
      · rintro (⟨p, hp, h0, r⟩ | r)
        · exact ⟨p, hp, by omega, r⟩
        · exact ⟨a.2.1, hq', by omega, r⟩
      · rintro ⟨p, hp, h0, r⟩
        by_cases ep : p = a.2.1
        · subst ep; exact .inr r
        · exact .inl ⟨p, hp, by omega, r⟩
    generalize me3[a.2.1] = T at *
    with_reducible refine Exists.elim rk4 (fun id4 hv => ?_)
    with_reducible refine Exists.elim hv (fun off4 hv => ?_)
    have ev4 := hv.1
    have vlt4 := hv.2.1
    have vrd4 := hv.2.2
    clear hv rk4
    subst ev4
    have V4 := V h4 (by rw [kk]; exact rkH4)
    simp (maxSteps := 1000000) -implicitDefEqProofs only [push_cast, seval, vrd4, vlt4, e4, rd_of e4, rd1_of e4, l4, V4.1, V4.2.2]
    repeat (with_reducible refine And.intro ?_ ?_; · (first | omega | decide))
    with_reducible refine CC.mono (E1 h4 a.2.2.2 T m4 hTi.2) (fun w h5 hv => ?_)
    with_reducible refine Exists.elim hv (fun es5 hv => ?_)
    have m5 := hv.1
    have mo5 := hv.2.1
    have re5 := hv.2.2.1
    clear hv
    have rkH5 := rkH4.fm mo5.fm m4.mo
    have V5 := V h5 (by rw [kk]; exact rkH5)
    have e5 := (mo5.ob h.n l4 hmr).trans e4
    have l5 : h.n < h5.n := Nat.lt_of_lt_of_le l4 mo5.n
    have hml5 := places_len s.size (Mt (L.map Prod.fst) s (kid x 1) T)
    have hmm5 := fun j => ml_mem (L := L.map Prod.fst) ok (s := s) (k := kid x 1) (i := T) (j := j) (by rw [List.length_map]; omega) hTi.2
    have hmi5 := fun j hj => Mt_in (L := L.map Prod.fst) ok (s := s) (kid x 1) (by rw [List.length_map]; omega) T j hTi.2 hj
    change (ml (L.map Prod.fst) s (kid x 1) T).length ≤ _ at hml5
    generalize ml (L.map Prod.fst) s (kid x 1) T = me5 at *
    have gr5 := gr4.fm mo5.fm m4.mo
    have ap5 : Apart es5 a.1 := ap4.mo mo5 (fun c e => (gr4.gr.lt e).2)
    have re5' := re4.fm mo5.fm m4.mo
    have mo5' : Mo h.n mr h h5 es es5 := mo4.trans mo5 (by omega)
    have hle : a.2.1 * (s.size + 1) ≤ (s.size + 1) * (s.size + 1) := Nat.mul_le_mul_right _ (by omega)
    have hfl : (a.2.2.1.map encNa).flatten.length / 1 = a.2.2.1.length := by rw [flat_len (enc := encNa) (k := 1) _ (fun _ => rfl)]; omega
    have n5 := mo5.n
    simp (maxSteps := 1000000) -implicitDefEqProofs only [push_cast, seval]
    refine GrL.app (n0 := h.n) si26 (by decide) (by decide) (notInt_sl und26) gr5 (by omega) re5.asrc (flat_len (k := 1) me5 (fun _ => rfl)) (by rw [hfl]; omega) (fun v' h6 g6 n6 f6 b6 => ?_)
    have lowB : ∀ j, j < h.n → ¬ atBlock a.1 j := fun j hj e => by have := (gr5.gr.lt e).1; omega
    have m6 : Mm h6 mp mr vP L s es5 := m5.but m.bs n6 (fun j hj => f6 j (by omega) (lowB j hj)) (fun e he c hc => by
      obtain ⟨k', i', _, _, _, r, _⟩ := m5.ent e he
      exact f6 c (r.lt hc) (ap5 e he c hc))
    have mo6 : Mo h.n mr h h6 es es5 := ⟨by have := mo5'.n; omega, fun j hj hm => (f6 j (by omega) (lowB j hj)).trans (mo5'.ob j hj hm), mo5'.new⟩
    have e6 := (f6 h.n (by omega) nb4).trans e5
    have re6 := re5'.keep n6 (fun j hj => f6 j (re5'.lt hj) (sep4 j hj))
    have idl : id < h.n := rk.lt rfl
    have rkH6 := rkH5.keep n6 (fun j hj => f6 j (rkH5.lt hj) (lowB j (by have e' : id = j := hj; omega)))
    have ap6 : Apart es5 v' := Apart.fresh m5.ent b6
    rw [← List.flatten_append, ← List.map_append] at g6
    simp (maxSteps := 1000000) -implicitDefEqProofs only [push_cast, seval]
    rw [wrapSucc (by omega)]
    refine ⟨(v', a.2.1 + 1, a.2.2.1 ++ me5, es5), by kernel_rfl, ⟨⟨by show a.2.1 + 1 ≤ _; omega, hnx me5 (fun j => hmm5 j), ?_⟩, ⟨m6, mo6⟩, ⟨g6, ap6, fun c hc e => ?_⟩, ⟨re6, rkH6⟩, e6, by omega, fun e => ?_⟩, by show me3.length - (a.2.1 + 1) < _; omega⟩
    · show (a.2.2.1 ++ me5).length ≤ (a.2.1 + 1) * (s.size + 1)
      rw [List.length_append, Nat.succ_mul]
      omega
    · have := vb3 c hc; have := b6 c e; omega
    · have := b6 _ e; omega
  by_cases o6 : x.op = 6
  · rw [kidsN, if_pos (.inr o6)] at kk
    have rk0 := rdN (rk.pre q2) (i := 0) (by omega) rfl
    have kl0 : kid x 0 < k := kid_lt okx (by omega)
    have kl1 : kid x 1 < k := kid_lt okx (by omega)
    with_reducible refine Exists.elim rk0 (fun id hv => ?_)
    with_reducible refine Exists.elim hv (fun off hv => ?_)
    have ev := hv.1
    clear hv rk0
    subst ev
    have V : ∀ H, RdV H (.slice (some ⟨id, off, none⟩) x.kids.length cA) 1 encNa x.kids → id < H.n ∧ rd1 H id off = some (.int .i64 (kid x 0 : Nat)) ∧ rd1 H id (off + 1) = some (.int .i64 (kid x 1 : Nat)) := fun H r => by
      obtain ⟨i0, o0, a1, a2, a3⟩ := rdN r (i := 0) (by omega) rfl
      injection a1 with a1
      injection a1 with b1 b2
      subst b1 b2
      rw [kid_get (by omega), Nat.zero_mul, Nat.add_zero] at a3
      obtain ⟨i0', o0', c1, c2, c3⟩ := rdN r (i := 1) (by omega) rfl
      injection c1 with c1
      injection c1 with d1 d2
      subst d1 d2
      rw [kid_get (by omega), Nat.one_mul] at c3
      exact ⟨a2, a3, c3⟩
    have E0 := E _ kl0
    unfold EndsOk at E0
    have E1 := E _ kl1
    unfold EndsOk at E1
    have rkH2 := rk.pre q2
    have V2 := V h2 rkH2
    rw [kk] at e2 rkH2
    have idl : id < h.n := rk.lt rfl
    have idm : id ≠ mr := fun e => by
      obtain ⟨cs, st, ln, e3⟩ := rk.cells (i := id) rfl
      rw [e, m.mo] at e3; cases e3
    simp (maxSteps := 1000000) -implicitDefEqProofs only [push_cast, seval, d10, d11, d5 o5, o6]
    refine WC.draw' (by kernel_rfl) (by kernel_rfl) (.q 0 (.q 1 (.q 2 (.q 3 (.q 4 (.q 5 (.q 7 (.q 8 (.q 9 (.q 10 (.q 11 (.q 12 (.a 6 false (.a 13 false (.a 14 false (.a 15 false (.q 16 (.done)))))))))))))))))) (by kernel_rfl) ?_
    simp (maxSteps := 1000000) -implicitDefEqProofs only [push_cast, seval, e2, rd_of e2, rd1_of e2, l2, V2.1, V2.2.1, V2.2.2]
    repeat (with_reducible refine And.intro ?_ ?_; · (first | omega | decide))
    with_reducible refine CC.mono (E0 h2 es i m2 hi) (fun v3 h3 hv => ?_)
    with_reducible refine Exists.elim hv (fun es3 hv => ?_)
    have m3 := hv.1
    have mo3 := hv.2.1
    have re3 := hv.2.2.1
    clear hv
    have rkH3 := rkH2.fm mo3.fm m2.mo
    have V3 := V h3 (by rw [kk]; exact rkH3)
    have e3 := (mo3.ob h.n l2 hmr).trans e2
    have l3 : h.n < h3.n := Nat.lt_of_lt_of_le l2 mo3.n
    have k3 : h3.ob id = h2.ob id := mo3.ob id V2.1 idm
    have b3 : h3.ob h.n = h2.ob h.n := mo3.ob h.n l2 hmr
    simp (maxSteps := 1000000) -implicitDefEqProofs only [push_cast, seval, e2, rd_of e2, rd1_of e2, e3, rd_of e3, rd1_of e3, l3, V3.1, V3.2.1, V3.2.2, k3, b3]
    with_reducible refine CC.mono (E1 h3 es3 i m3 hi) (fun v4 h4 hv => ?_)
    with_reducible refine Exists.elim hv (fun es4 hv => ?_)
    have m4 := hv.1
    have mo4 := hv.2.1
    have re4 := hv.2.2.1
    clear hv
    have rkH4 := rkH3.fm mo4.fm m3.mo
    have V4 := V h4 (by rw [kk]; exact rkH4)
    have e4 := (mo4.ob h.n l3 hmr).trans e3
    have l4 : h.n < h4.n := Nat.lt_of_lt_of_le l3 mo4.n
    have k4 : h4.ob id = h3.ob id := mo4.ob id V3.1 idm
    have b4 : h4.ob h.n = h3.ob h.n := mo4.ob h.n l3 hmr
    have re3' := re3.fm mo4.fm m3.mo
    have u3 := re3.one
    have u4 := re4.one
    have y3 := re3.cell1
    have y4 := re4.cell1
    have hml3 := places_len s.size (Mt (L.map Prod.fst) s (kid x 0) i)
    have hmm3 := fun j => ml_mem (L := L.map Prod.fst) ok (s := s) (k := kid x 0) (i := i) (j := j) (by rw [List.length_map]; omega) hi
    have hmi3 := fun j hj => Mt_in (L := L.map Prod.fst) ok (s := s) (kid x 0) (by rw [List.length_map]; omega) i j hi hj
    change (ml (L.map Prod.fst) s (kid x 0) i).length ≤ _ at hml3
    generalize ml (L.map Prod.fst) s (kid x 0) i = me3 at *
    have hml4 := places_len s.size (Mt (L.map Prod.fst) s (kid x 1) i)
    have hmm4 := fun j => ml_mem (L := L.map Prod.fst) ok (s := s) (k := kid x 1) (i := i) (j := j) (by rw [List.length_map]; omega) hi
    have hmi4 := fun j hj => Mt_in (L := L.map Prod.fst) ok (s := s) (kid x 1) (by rw [List.length_map]; omega) i j hi hj
    change (ml (L.map Prod.fst) s (kid x 1) i).length ≤ _ at hml4
    generalize ml (L.map Prod.fst) s (kid x 1) i = me4 at *
    simp (maxSteps := 1000000) -implicitDefEqProofs only [push_cast, seval, e2, rd_of e2, rd1_of e2, e3, rd_of e3, rd1_of e3, e4, rd_of e4, rd1_of e4, l4, V4.1, V4.2.1, V4.2.2, k3, b3, k4, b4, u3, u4, y3, y4]
    have pH : Pre h4 (h4.alloc (.cells [v3, v4] .solo h4.n)) := (Pre.refl _).alloc _
    have eH : (h4.alloc (.cells [v3, v4] .solo h4.n)).ob h4.n = _ := alloc_same _
    have nH : (h4.alloc (.cells [v3, v4] .solo h4.n)).n = h4.n + 1 := rfl
    generalize (h4.alloc (.cells [v3, v4] .solo h4.n)) = H at *
    with_reducible refine CC.mono (Concat_c v3 v4 me3 me4 h4.n H (re3'.pre pH) (re4.pre pH) eH (by omega) (by omega) (by omega)) (fun v5 h5 hv => ?_)
    have g5 := hv.1
    have p5 := hv.2
    clear hv
    have k5 : h5.ob id = H.ob id := p5.ob id (by have := V4.1; omega)
    have b5 : h5.ob h.n = H.ob h.n := p5.ob h.n (by omega)
    have kH : H.ob id = h4.ob id := pH.ob id V4.1
    have bH : H.ob h.n = h4.ob h.n := pH.ob h.n l4
    simp (maxSteps := 1000000) -implicitDefEqProofs only [push_cast, seval, k3, b3, k4, b4, k5, b5, kH, bH]
    refine ⟨es4, me3 ++ me4, (m4.pre pH).pre p5, (((Mo.ofPre q2 (Nat.le_refl _)).trans mo3 q2.n).trans mo4 (by omega)).trans (Mo.ofPre (pH.trans p5) (Nat.le_refl h4.n)) (by omega), g5.mono (by omega), Apart.fresh m4.ent (fun c e => by have := (g5.gr.lt e).1; omega), fun j => ?_, ?_⟩
    · rw [List.mem_append, hM, step6 o6, hmm3, hmm4]
    · rw [List.length_append]; omega
  by_cases o9 : x.op = 9
  · rw [kidsN, if_neg (by omega), if_pos (by omega)] at kk
    have rk0 := rdN (rk.pre q2) (i := 0) (by omega) rfl
    have kl0 : kid x 0 < k := kid_lt okx (by omega)
    with_reducible refine Exists.elim rk0 (fun id hv => ?_)
    with_reducible refine Exists.elim hv (fun off hv => ?_)
    have ev := hv.1
    clear hv rk0
    subst ev
    have V : ∀ H, RdV H (.slice (some ⟨id, off, none⟩) x.kids.length cA) 1 encNa x.kids → id < H.n ∧ rd1 H id off = some (.int .i64 (kid x 0 : Nat)) := fun H r => by
      obtain ⟨i0, o0, a1, a2, a3⟩ := rdN r (i := 0) (by omega) rfl
      injection a1 with a1
      injection a1 with b1 b2
      subst b1 b2
      rw [kid_get (by omega), Nat.zero_mul, Nat.add_zero] at a3
      exact ⟨a2, a3⟩
    have E0 := E _ kl0
    unfold EndsOk at E0
    have rkH2 := rk.pre q2
    have V2 := V h2 rkH2
    rw [kk] at e2 rkH2
    have rkHO : RdV (h2.alloc (.cells [.int .i64 (i : Nat)] .solo h2.n)) (.slice (some ⟨id, off, none⟩) 1 cA) 1 encNa x.kids := rkH2.pre pO
    have VO := V (h2.alloc (.cells [.int .i64 (i : Nat)] .solo h2.n)) (by rw [kk]; exact rkHO)
    have eO := (pO.ob h.n l2).trans e2
    have lO : h.n < (h2.alloc (.cells [.int .i64 (i : Nat)] .solo h2.n)).n := Nat.lt_of_lt_of_le l2 pO.n
    have mO := m2.pre pO
    simp (maxSteps := 1000000) -implicitDefEqProofs only [push_cast, seval, d10, d11, d5 o5, d6 o6, o9, eO, rd_of eO, rd1_of eO, lO, VO.1, VO.2]
    repeat (with_reducible refine And.intro ?_ ?_; · (first | omega | decide))
    have nO : (h2.alloc (.cells [.int .i64 (i : Nat)] .solo h2.n)).n = h2.n + 1 := rfl
    generalize (h2.alloc (.cells [.int .i64 (i : Nat)] .solo h2.n)) = hO at *
    have lowO : ∀ c, atBlock (.slice (some ⟨h2.n, 0, none⟩) 1 1) c → c < hO.n := fun c e => by have e' : h2.n = c := e; omega
    have apO : Apart es (.slice (some ⟨h2.n, 0, none⟩) 1 1) := Apart.fresh m2.ent bO
    have nO' : hO.n = h2.n + 1 := nO
    with_reducible refine CC.mono (E0 hO es i mO hi) (fun v3 h3 hv => ?_)
    with_reducible refine Exists.elim hv (fun es3 hv => ?_)
    have m3 := hv.1
    have mo3 := hv.2.1
    have re3 := hv.2.2.1
    clear hv
    have rkH3 := rkHO.fm mo3.fm mO.mo
    have V3 := V h3 (by rw [kk]; exact rkH3)
    have e3 := (mo3.ob h.n lO hmr).trans eO
    have l3 : h.n < h3.n := Nat.lt_of_lt_of_le lO mo3.n
    have hml3 := places_len s.size (Mt (L.map Prod.fst) s (kid x 0) i)
    have hmm3 := fun j => ml_mem (L := L.map Prod.fst) ok (s := s) (k := kid x 0) (i := i) (j := j) (by rw [List.length_map]; omega) hi
    have hmi3 := fun j hj => Mt_in (L := L.map Prod.fst) ok (s := s) (kid x 0) (by rw [List.length_map]; omega) i j hi hj
    change (ml (L.map Prod.fst) s (kid x 0) i).length ≤ _ at hml3
    generalize ml (L.map Prod.fst) s (kid x 0) i = me3 at *
    have gr3 := gO.fm mo3.fm mO.mo
    have ap3 := apO.mo mo3 lowO
    have n3 := mo3.n
    have mo3' : Mo h.n mr h h3 es es3 := (Mo.ofPre (q2.trans pO) (Nat.le_refl _)).trans mo3 (by omega)
    simp (maxSteps := 1000000) -implicitDefEqProofs only [push_cast, seval]
    refine GrL.app (n0 := h.n) si26 (by decide) (by decide) (notInt_sl und26) gr3 (by omega) re3.asrc (flat_len (k := 1) me3 (fun _ => rfl)) (by simp [encNa]; omega) (fun v' h6 g6 n6 f6 b6 => ?_)
    have lowB : ∀ j, j < h.n → ¬ atBlock (.slice (some ⟨h2.n, 0, none⟩) 1 1) j := fun j hj e => by have := bO j e; omega
    have m6 : Mm h6 mp mr vP L s es3 := m3.but m.bs n6 (fun j hj => f6 j (by omega) (lowB j hj)) (fun e he c hc => by
      obtain ⟨k', i', _, _, _, r, _⟩ := m3.ent e he
      exact f6 c (r.lt hc) (ap3 e he c hc))
    have mo6 : Mo h.n mr h h6 es es3 := ⟨by have := mo3'.n; omega, fun j hj hm => (f6 j (by omega) (lowB j hj)).trans (mo3'.ob j hj hm), mo3'.new⟩
    rw [← List.flatten_append, ← List.map_append] at g6
    simp (maxSteps := 1000000) -implicitDefEqProofs only [push_cast, seval]
    refine ⟨es3, [i] ++ me3, m6, mo6, g6, Apart.fresh m3.ent b6, fun j => ?_, ?_⟩
    · rw [List.mem_append, List.mem_singleton, hM, step9 o9, hmm3]
    · rw [List.length_append]; simp only [List.length_cons, List.length_nil]; omega
  by_cases o7 : x.op = 7
  · rw [kidsN, if_neg (by omega), if_pos (by omega)] at kk
    have rk0 := rdN (rk.pre q2) (i := 0) (by omega) rfl
    have kl0 : kid x 0 < k := kid_lt okx (by omega)
    with_reducible refine Exists.elim rk0 (fun id hv => ?_)
    with_reducible refine Exists.elim hv (fun off hv => ?_)
    have ev := hv.1
    clear hv rk0
    subst ev
    have V : ∀ H, RdV H (.slice (some ⟨id, off, none⟩) x.kids.length cA) 1 encNa x.kids → id < H.n ∧ rd1 H id off = some (.int .i64 (kid x 0 : Nat)) := fun H r => by
      obtain ⟨i0, o0, a1, a2, a3⟩ := rdN r (i := 0) (by omega) rfl
      injection a1 with a1
      injection a1 with b1 b2
      subst b1 b2
      rw [kid_get (by omega), Nat.zero_mul, Nat.add_zero] at a3
      exact ⟨a2, a3⟩
    have E0 := E _ kl0
    unfold EndsOk at E0
    have rkH2 := rk.pre q2
    have V2 := V h2 rkH2
    rw [kk] at e2 rkH2
    simp (maxSteps := 1000000) -implicitDefEqProofs only [push_cast, seval, d10, d11, d5 o5, d6 o6, d9 o9, o7, e2, rd_of e2, rd1_of e2, l2, V2.1, V2.2]
    repeat (with_reducible refine And.intro ?_ ?_; · (first | omega | decide))
    have mO := m2.pre pO
    have nO : (h2.alloc (.cells [.int .i64 (i : Nat)] .solo h2.n)).n = h2.n + 1 := rfl
    generalize (h2.alloc (.cells [.int .i64 (i : Nat)] .solo h2.n)) = hO at *
    have lowO : ∀ c, atBlock (.slice (some ⟨h2.n, 0, none⟩) 1 1) c → c < hO.n := fun c e => by have e' : h2.n = c := e; omega
    have apO : Apart es (.slice (some ⟨h2.n, 0, none⟩) 1 1) := Apart.fresh m2.ent bO
    have nO' : hO.n = h2.n + 1 := nO
    with_reducible refine CC.mono (again_c mp mr vP L s (kid x 0) (by omega) ok (E _ kl0) h.n [i] _ hO es mO m.bs (by omega) gO apO (fun j hj => by rw [List.mem_singleton] at hj; omega) (by simp) hs) (fun v3 h3 hv => ?_)
    with_reducible refine Exists.elim hv (fun es3 hv => ?_)
    with_reducible refine Exists.elim hv (fun l3 hv => ?_)
    have a1 := hv.1
    have a2 := hv.2.1
    have a3 := hv.2.2.1
    have a4 := hv.2.2.2.1
    have a5 := hv.2.2.2.2.1
    have a6 := hv.2.2.2.2.2
    clear hv
    simp (maxSteps := 1000000) -implicitDefEqProofs only [push_cast, seval]
    refine ⟨es3, l3, a1, (Mo.ofPre (q2.trans pO) (Nat.le_refl _)).trans a2 (Nat.le_refl _), a3, a4, fun j => ?_, by omega⟩
    rw [a5, hM, step7 o7]
    simp
  have o8 : x.op = 8 := by omega
  rw [kidsN, if_neg (by omega), if_pos (by omega)] at kk
  have rk0 := rdN (rk.pre q2) (i := 0) (by omega) rfl
  have kl0 : kid x 0 < k := kid_lt okx (by omega)
  with_reducible refine Exists.elim rk0 (fun id hv => ?_)
  with_reducible refine Exists.elim hv (fun off hv => ?_)
  have ev := hv.1
  clear hv rk0
  subst ev
  have V : ∀ H, RdV H (.slice (some ⟨id, off, none⟩) x.kids.length cA) 1 encNa x.kids → id < H.n ∧ rd1 H id off = some (.int .i64 (kid x 0 : Nat)) := fun H r => by
    obtain ⟨i0, o0, a1, a2, a3⟩ := rdN r (i := 0) (by omega) rfl
    injection a1 with a1
    injection a1 with b1 b2
    subst b1 b2
    rw [kid_get (by omega), Nat.zero_mul, Nat.add_zero] at a3
    exact ⟨a2, a3⟩
  have E0 := E _ kl0
  unfold EndsOk at E0
  have rkH2 := rk.pre q2
  have V2 := V h2 rkH2
  rw [kk] at e2 rkH2
  have idl : id < h.n := rk.lt rfl
  have idm : id ≠ mr := fun e => by
    obtain ⟨cs, st, ln, e3⟩ := rk.cells (i := id) rfl
    rw [e, m.mo] at e3; cases e3
  simp (maxSteps := 1000000) -implicitDefEqProofs only [push_cast, seval, d10, d11, d5 o5, d6 o6, d9 o9, d7 o7, o8]
  refine WC.draw' (by kernel_rfl) (by kernel_rfl) (.q 0 (.q 1 (.q 2 (.q 3 (.q 4 (.q 5 (.q 6 (.q 7 (.q 8 (.q 9 (.q 10 (.a 11 false (.a 12 false (.a 13 false (.q 14 (.done)))))))))))))))) (by kernel_rfl) ?_
  simp (maxSteps := 1000000) -implicitDefEqProofs only [push_cast, seval, e2, rd_of e2, rd1_of e2, l2, V2.1, V2.2]
  repeat (with_reducible refine And.intro ?_ ?_; · (first | omega | decide))
  with_reducible refine CC.mono (E0 h2 es i m2 hi) (fun v3 h3 hv => ?_)
  with_reducible refine Exists.elim hv (fun es3 hv => ?_)
  have m3 := hv.1
  have mo3 := hv.2.1
  have re3 := hv.2.2.1
  clear hv
  have rkH3 := rkH2.fm mo3.fm m2.mo
  have V3 := V h3 (by rw [kk]; exact rkH3)
  have e3 := (mo3.ob h.n l2 hmr).trans e2
  have l3 : h.n < h3.n := Nat.lt_of_lt_of_le l2 mo3.n
  have k3 : h3.ob id = h2.ob id := mo3.ob id V2.1 idm
  have b3 : h3.ob h.n = h2.ob h.n := mo3.ob h.n l2 hmr
  have hml3 := places_len s.size (Mt (L.map Prod.fst) s (kid x 0) i)
  have hmm3 := fun j => ml_mem (L := L.map Prod.fst) ok (s := s) (k := kid x 0) (i := i) (j := j) (by rw [List.length_map]; omega) hi
  have hmi3 := fun j hj => Mt_in (L := L.map Prod.fst) ok (s := s) (kid x 0) (by rw [List.length_map]; omega) i j hi hj
  change (ml (L.map Prod.fst) s (kid x 0) i).length ≤ _ at hml3
  generalize ml (L.map Prod.fst) s (kid x 0) i = me3 at *
  simp (maxSteps := 1000000) -implicitDefEqProofs only [push_cast, seval, e2, rd_of e2, rd1_of e2, e3, rd_of e3, rd1_of e3, l3, V3.1, V3.2, k3, b3]
  with_reducible refine CC.mono (copyIntsG_c v3 me3 h3 re3 (by omega)) (fun v4 h4 hv => ?_)
  have g4 := hv.1
  have p4 := hv.2
  clear hv
  have k4 : h4.ob id = h3.ob id := p4.ob id V3.1
  have b4 : h4.ob h.n = h3.ob h.n := p4.ob h.n l3
  have m4 := m3.pre p4
  have n3 := mo3.n
  have n4 := p4.n
  simp (maxSteps := 1000000) -implicitDefEqProofs only [push_cast, seval, e2, rd_of e2, rd1_of e2, e3, rd_of e3, rd1_of e3, l3, V3.1, V3.2, k3, b3, k4, b4]
  with_reducible refine CC.mono (again_c mp mr vP L s (kid x 0) (by omega) ok (E _ kl0) (h.n + 1) me3 v4 h4 es3 m4 (m.bs.mono (by omega)) (by omega) (g4.mono (by omega)) (Apart.fresh m3.ent (fun c e => (g4.gr.lt e).1)) (fun j hj => (hmi3 j ((hmm3 j).1 hj)).2) hml3 hs) (fun v5 h5 hv => ?_)
  with_reducible refine Exists.elim hv (fun es5 hv => ?_)
  with_reducible refine Exists.elim hv (fun l5 hv => ?_)
  have a1 := hv.1
  have a2 := hv.2.1
  have a3 := hv.2.2.1
  have a4 := hv.2.2.2.1
  have a5 := hv.2.2.2.2.1
  have a6 := hv.2.2.2.2.2
  clear hv
  have k5 : h5.ob id = h4.ob id := a2.ob id (by omega) idm
  have b5 : h5.ob h.n = h4.ob h.n := a2.ob h.n (by omega) hmr
  simp (maxSteps := 1000000) -implicitDefEqProofs only [push_cast, seval, k3, b3, k4, b4, k5, b5]
  refine ⟨es5, l5, a1, ((((Mo.ofPre q2 (Nat.le_refl _)).trans mo3 q2.n)).trans (Mo.ofPre p4 (Nat.le_refl h3.n)) (by omega)).trans a2 (by omega), a3.mono (by omega), a4, fun j => ?_, by omega⟩
  rw [a5, hM, step8 o8]
  constructor
  · rintro ⟨q, hq, r⟩; exact ⟨q, (hmm3 q).1 hq, r⟩
  · rintro ⟨q, hq, r⟩; exact ⟨q, (hmm3 q).2 hq, r⟩
end Go.Proofs.Ytciajhpeikemoaa
namespace Go.Proofs.Ytciajhpeikemoaa
open Go Go.Sim Go.Proofs
set_option linter.unusedSimpArgs false
set_option linter.unusedVariables false
set_option maxRecDepth 100000
set_option maxHeartbeats 1000000
theorem alookup_some {P : Program} {h : AH} {t kt et : TypeId} {r : Nat} {es : List (Value × Value)} {n : Int} {v : Value} {i : TI} {K : Value → Prop} (ht : P.underlying t = some (.map kt et)) (hk : isIntD (P.underlying kt) = true) (ho : h.ob r = .map es) (hti : ti P et = some i) (hg : aget es .i64 n = some (some v)) (k : K (.tuple #[v, .bool true])) : alookup P h t (.map (some r)) (.int .i64 n) true K := by
  unfold alookup
  rw [ht]
  simp only [ho, hti, hg]
  exact ⟨hk, k⟩
theorem alookup_none {P : Program} {h : AH} {t kt et : TypeId} {r : Nat} {es : List (Value × Value)} {n : Int} {z : Value} {a b : Nat} {K : Value → Prop} (ht : P.underlying t = some (.map kt et)) (hk : isIntD (P.underlying kt) = true) (ho : h.ob r = .map es) (hti : ti P et = some ⟨a, b, [z], false⟩) (hg : aget es .i64 n = some none) (k : K (.tuple #[z, .bool false])) : alookup P h t (.map (some r)) (.int .i64 n) true K := by
  unfold alookup
  rw [ht]
  simp only [ho, hti, hg]
  exact ⟨hk, trivial, k⟩
theorem amapset_of {P : Program} {h : AH} {t kt et : TypeId} {r : Nat} {es es' : List (Value × Value)} {n : Int} {v : Value} {K : AH → Prop} (ht : P.underlying t = some (.map kt et)) (hk : isIntD (P.underlying kt) = true) (ho : h.ob r = .map es) (hg : aput es .i64 n v = some es') (k : K (h.set r (.map es'))) : amapset P h t (.map (some r)) (.int .i64 n) v K := by
  unfold amapset
  rw [ht]
  simp only [ho, hg]
  exact ⟨hk, k⟩
theorem ends_ok (mp mr : Nat) (vP : Value) (L : List (Pc × Value)) (s : ByteArray) (ok : Okp (L.map Prod.fst)) (hL : L.length ≤ 1000) (hs : s.size ≤ 100000) : ∀ k, k < L.length → EndsOk mp mr vP L s k := by
  intro k
  induction k using Nat.strongRecOn with
  | ind k ih =>
  intro hk h es i m hi
  refine CC.withBig (fun big => ?_)
  have pt := m.pt
  have lt := m.lt
  obtain ⟨N, hN⟩ : ∃ N, N = s.size + 1 := ⟨_, rfl⟩
  obtain ⟨K, hK⟩ : ∃ K, K = k * N := ⟨_, rfl⟩
  have hKb : K ≤ 1000 * 100001 := by rw [hK]; exact Nat.mul_le_mul (by omega) (by omega)
  have w1 : IntKind.i64.wrap ((s.size : Int) + 1) = (N : Nat) := by rw [wrapSucc (by omega), hN]
  have w2 : IntKind.i64.wrap ((k : Int) * (N : Nat)) = (K : Nat) := by rw [hK, w64 (by rw [← Int.natCast_mul]; omega) (by rw [← Int.natCast_mul]; omega)]; push_cast; rfl
  have hkey : mkey s k i = ((K + i : Nat) : Int) := by unfold mkey; rw [hK, hN]
  have w3 : IntKind.i64.wrap ((K : Int) + (i : Nat)) = mkey s k i := by rw [hkey, w64 (by omega) (by omega)]; push_cast; rfl
  obtain ⟨r, hg, hr⟩ := aget_told (n := mkey s k i) m.ent
  have hP := m.pat.r
  obtain ⟨A, cP, rfl, hPR⟩ := hP.rde (fun _ => rfl)
  cases r with
  | some v =>
    have hv := hr v rfl
    have rv := m.told hi hv
    have fin : ∃ es', Mm h mp mr (.slice A L.length cP) L s es' ∧ Mo h.n mr h h es es' ∧ RdV h v 1 encNa (ml (L.map Prod.fst) s k i) ∧ ∃ e ∈ es', e.2 = v := ⟨es, m, Mo.refl _ _ _ _, rv, _, hv, rfl⟩
    clear hr hv rv
    generalize mkey s k i = key at w3 hg
    refine CC.ofN Try.func80 Try.ntmps80 Try.results80 rfl (by decide) (by kernel_rfl) ?_
    simp (maxSteps := 1000000) -implicitDefEqProofs only [push_cast, seval, pt, rd_of pt, rd1_of pt, lt, w1, w2, w3]
    refine alookup_some und137 (by rw [und3]; rfl) m.mo ti26 hg ?_
    simp (maxSteps := 1000000) -implicitDefEqProofs only [push_cast, seval]
    exact fin
  | none =>
    have hpc : pcAt (L.map Prod.fst) k = L[k].1 := by simp [pcAt, hk]
    have kr := m.pat.kids _ (List.getElem_mem hk)
    have hF := found_c mp mr _ L s k hk ok (fun j hj => ih j hj (by omega)) L[k].1 L[k].2 hpc h es i m hi hs kr
    obtain ⟨id, off, rfl, hlt, hrd⟩ : ∃ id off, A = some ⟨id, off, none⟩ ∧ id < h.n ∧ rd h id (off + k * 3) 3 = some (encP L[k]) := by
      obtain ⟨id, off, e1, e2⟩ := hPR k hk
      subst e1
      exact ⟨id, off, rfl, hP.lt rfl, e2⟩
    have kone := kr.one
    have hput := fun (h3 : AH) (es3 : List (Value × Value)) (r : Value) (m3 : Mm h3 mp mr (.slice (some ⟨id, off, none⟩) L.length cP) L s es3) => aput_told (n := mkey s k i) (v := r) m3.ent
    clear hr
    simp only [encP] at hrd
    have hkk : mkey s k i = mkey s k i := rfl
    generalize hkey2 : mkey s k i = key at w3 hg hput
    refine CC.ofN Try.func80 Try.ntmps80 Try.results80 rfl (by decide) (by kernel_rfl) ?_
    simp (maxSteps := 1000000) -implicitDefEqProofs only [push_cast, seval, pt, rd_of pt, rd1_of pt, lt, w1, w2, w3]
    refine alookup_none und137 (by rw [und3]; rfl) m.mo ti26 hg ?_
    have r0 := (rd_3 hrd).1
    have r1 := (rd_3 hrd).2.1
    have r2 := (rd_3 hrd).2.2
    simp (maxSteps := 1000000) -implicitDefEqProofs only [push_cast, seval, pt, rd_of pt, rd1_of pt, lt, hrd, r0, r1, r2, hlt, kone]
    repeat (with_reducible refine And.intro ?_ ?_; · (first | omega | decide))
    with_reducible refine CC.mono hF (fun v h1 hv => ?_)
    unfold FndP at hv
    with_reducible refine Exists.elim hv (fun es1 hv => ?_)
    with_reducible refine Exists.elim hv (fun l hv => ?_)
    have m1 := hv.1
    have mo1 := hv.2.1
    have g1 := hv.2.2.1
    have ap1 := hv.2.2.2.1
    have hl1 := hv.2.2.2.2.1
    have hln := hv.2.2.2.2.2
    clear hv hF
    have hNN : (s.size + 1) * (s.size + 1) ≤ 100001 * 100001 := Nat.mul_le_mul (by omega) (by omega)
    rw [encNa_row] at g1
    have htl : (toI l).length = l.length := by simp [toI]
    have hsl : (srtI (toI l)).length = l.length := by rw [srtI_len, htl]
    simp (maxSteps := 1000000) -implicitDefEqProofs only [push_cast, seval]
    with_reducible refine CC.mono (SortI_c (toI l) v h1 g1 (by omega)) (fun v2 h2 hv => ?_)
    have e2 := hv.1
    have g2 := hv.2.1
    have wv2 := hv.2.2.1
    have lo2 := hv.2.2.2
    clear hv
    subst e2
    have m2 := m1.wrV m.bs ap1 wv2 lo2
    have hcmp : Lib.compact (srtI (toI l)) = toI (ml (L.map Prod.fst) s k i) := sorted_places (fun j => by
      rw [hl1]
      exact ⟨fun hm => ⟨(Mt_in ok k (by rw [List.length_map]; exact hk) i j hi hm).2, hm⟩, fun hm => hm.2⟩)
    simp (maxSteps := 1000000) -implicitDefEqProofs only [push_cast, seval]
    with_reducible refine CC.mono (CompactI_c (srtI (toI l)) (ml (L.map Prod.fst) s k i) hcmp v h2 g2 (by omega)) (fun r h3 hv => ?_)
    have r3 := hv.1
    have o3 := hv.2.1
    have wv3 := hv.2.2.1
    have lo3 := hv.2.2.2
    clear hv
    have m3 := m2.wrV m.bs ap1 wv3 lo3
    have hn2 := wv2.n
    have hn3 := wv3.n
    have pt3 := m3.pt
    have lt3 := m3.lt
    have hp3 := hput h3 es1 r m3
    with_reducible refine Exists.elim hp3 (fun es4 hv => ?_)
    have hp4 := hv.1
    have hsub := hv.2
    clear hv hp3 hput
    simp (maxSteps := 1000000) -implicitDefEqProofs only [push_cast, seval, pt3, rd_of pt3, rd1_of pt3, lt3]
    refine amapset_of und137 (by rw [und3]; rfl) m3.mo hp4 ?_
    have f4 : Fm mr h3 (h3.set mr (.map es4)) := ⟨Nat.le_refl _, fun j _ hj => set_ne _ hj⟩
    have m4 := m3.put hk hi (by rw [hkey2]; exact hsub) r3 (fun b hb => o3.live hb)
    have r4 := r3.fm f4 m3.mo
    simp (maxSteps := 1000000) -implicitDefEqProofs only [push_cast, seval]
    refine ⟨es4, m4, ⟨by have := mo1.n; show h.n ≤ h3.n; omega, fun j hj hm => ?_, fun e he => ?_⟩, r4, _, aput_mem hp4, rfl⟩
    · rw [set_ne _ hm, lo3 j hj, lo2 j hj, mo1.ob j hj hm]
    · rcases hsub e he with h1 | h1
      · exact mo1.new e h1
      · right
        subst h1
        exact fun c hc => (o3.range hc).1
end Go.Proofs.Ytciajhpeikemoaa
namespace Go.Proofs.Ytciajhpeikemoaa
open Go Go.Sim Go.Proofs
set_option linter.unusedSimpArgs false
set_option linter.unusedVariables false
set_option maxRecDepth 100000
set_option maxHeartbeats 1000000
theorem fr_to {n0 : Nat} {h0 h h' : AH} {R : Value → AH → Prop} {f : FuncId} {args : List Value} (a : Fr n0 h0 h) (hc : CC Try.prog f args h (fun v h' => Fr n0 h h' ∧ R v h')) : CC Try.prog f args h (fun v h' => Fr n0 h0 h' ∧ R v h') :=
  CC.mono hc (fun v h' ⟨x, y⟩ => ⟨a.trans x, y⟩)
theorem takeD (p : Nat) (s : ByteArray) (k : Nat) (bad : Bool) (v : Value) (c : Nat) (ci : Int) (hci : (c : Int) = ci) (h : AH) (e : h.ob p = .cells (cI s k bad v) .solo p) (hp : p < h.n) (hk : k ≤ s.size) (hs : s.size ≤ 24) :
    CD Try.prog 104 [.pointer (some ⟨p, 0, none⟩), .int .u8 ci] h (.bool (isAt s k c)) (if isAt s k c then h.set p (.cells (cI s (k + 1) bad v) .solo p) else h) := by
  subst hci
  exact take_c p s k bad v c h e hp hk hs
theorem putG (n0 p : Nat) (s : ByteArray) (k : Nat) (out : List Pc) (x : Value) (op : Nat) (oi : Int) (hoi : (op : Int) = oi) (text : ByteArray) (kids : List Nat) (h : AH) (G : Rg (cI s) s n0 p h k out) (hj : out.length ≤ 500) (r : RdV h x 1 encNa kids) (hl : kids.length ≤ 1000) :
    CC Try.prog 105 [.pointer (some ⟨p, 0, none⟩), .int .i64 oi, .string text, x] h (fun y h' => y = .int .i64 (out.length : Nat) ∧ Fr n0 h h' ∧ Rg (cI s) s n0 p h' k (out ++ [⟨op, text, kids⟩])) := by
  subst hoi
  obtain ⟨v, L, e, w, rfl⟩ := G.ex
  rw [List.length_map] at hj ⊢
  refine CC.mono (put_c n0 p s k false v x op text kids _ L.length h e G.lt G.le w.gr (flatP_len L) (by omega) w.vp r hl) (fun y h' hy => ?_)
  obtain ⟨hy, v', kv, q, e'⟩ := hy
  exact ⟨hy, q.fr G.lt G.le w.gr, q.good G.lt G.le G.hi w e'⟩
theorem putB (n0 p m : Nat) (s : ByteArray) (x : Value) (op : Nat) (oi : Int) (hoi : (op : Int) = oi) (text : ByteArray) (kids : List Nat) (h : AH) (G : Rb (cI s) s n0 p h m) (hj : m ≤ 500) (r : RdV h x 1 encNa kids) (hl : kids.length ≤ 1000) :
    CC Try.prog 105 [.pointer (some ⟨p, 0, none⟩), .int .i64 oi, .string text, x] h (fun y h' => (∃ r : Nat, y = .int .i64 (r : Nat)) ∧ Fr n0 h h' ∧ Rb (cI s) s n0 p h' (m + 1)) := by
  subst hoi
  obtain ⟨k, v, cs, j, a, b, c, d, e, f⟩ := G.ex
  refine CC.mono (put_c n0 p s k true v x op text kids _ j h b G.lt G.le c d (by omega) f r hl) (fun y h' hy => ?_)
  obtain ⟨hy, v', kv, q, e'⟩ := hy
  exact ⟨⟨_, hy⟩, q.fr G.lt G.le c, q.bad G.lt G.le a d e e'⟩
theorem takeB (n0 p m : Nat) (s : ByteArray) (c : Nat) (ci : Int) (hci : (c : Int) = ci) (h : AH) (G : Rb (cI s) s n0 p h m) (hs : s.size ≤ 24) :
    CC Try.prog 104 [.pointer (some ⟨p, 0, none⟩), .int .u8 ci] h (fun y h' => (∃ b : Bool, y = .bool b) ∧ Fr n0 h h' ∧ Rb (cI s) s n0 p h' m) := by
  subst hci
  obtain ⟨k, v, cs, j, a, b, cc, d, e, f⟩ := G.ex
  refine CC.mono (take_c p s k true v c h b G.lt a hs) (fun y h' hy => ?_)
  obtain ⟨rfl, rfl⟩ := hy
  refine ⟨⟨_, rfl⟩, ?_⟩
  by_cases hc : isAt s k c = true
  · rw [if_pos hc]
    have := isAt_lt hc
    exact ⟨(Fr.refl _ _).set G.le _, Rb.at G.lt G.le cc d e f (by omega)⟩
  · rw [if_neg hc]
    exact ⟨Fr.refl _ _, G⟩
theorem brk_ix (s : ByteArray) (b : Nat) (hb : b ≤ s.size) : brk s b = (if ixB (s.extract b s.size) 93 < 0 then s.size else b + (ixB (s.extract b s.size) 93).toNat) := by
  have t := Txt.of s b hb
  rcases ixB_lt (s.extract b s.size) 93 (by decide) with hx | ⟨o, hx, ho⟩
  · rw [if_pos (by omega)]
    refine brk_no b hb (fun i h1 h2 h3 => ?_)
    refine ixB_none (by decide) hx (i - b) (by rw [t.size]; omega) ?_
    rw [t.byte _ (by omega), show b + (i - b) = i by omega]; exact h3
  · rw [if_neg (by omega), hx]
    have hh := ixB_some (by decide) hx
    rw [t.size] at ho
    refine brk_yes b _ (by omega) (by omega) ?_ (fun i h1 h2 h3 => ?_)
    · rw [show ((o : Int)).toNat = o from rfl, ← t.byte o (by omega)]; exact hh.2.1
    · refine hh.2.2 (i - b) (by omega) ?_
      rw [t.byte _ (by omega), show b + (i - b) = i by omega]; exact h3
theorem set_i (n0 p : Nat) (s : ByteArray) (k : Nat) (out : List Pc) (h : AH) (hs : s.size ≤ 24) (G : Rg (cI s) s n0 p h k out) (hj : out.length + 2 * (s.size - k) ≤ 100) :
    CC Try.prog 210 [.pointer (some ⟨p, 0, none⟩)] h (Ro (cI s) s n0 p h (out.length + 2 * (s.size - k)) (pSet s k out)) := by
  have hp := G.lt
  have hn := G.le
  have hk := G.hi
  obtain ⟨v, L, e, w, hL⟩ := G.ex
  have hT0 := takeD p s k false v 94 94 rfl h e hp hk hs
  obtain ⟨b, hb⟩ : ∃ b, b = (if isAt s k 94 = true then k + 1 else k) := ⟨_, rfl⟩
  obtain ⟨h1, hh1⟩ : ∃ h1, h1 = (if isAt s k 94 = true then h.set p (.cells (cI s (k + 1) false v) .solo p) else h) := ⟨_, rfl⟩
  have hb1 : k ≤ b ∧ b ≤ s.size := by
    by_cases hc : isAt s k 94 = true
    · rw [if_pos hc] at hb; have := isAt_lt hc; omega
    · rw [if_neg hc] at hb; omega
  have e1 : h1.ob p = .cells [.string (s.extract b s.size), v, .bool false] .solo p := by
    by_cases hc : isAt s k 94 = true
    · rw [if_pos hc] at hb hh1; rw [hh1, hb]; exact set_same _ _
    · rw [if_neg hc] at hb hh1; rw [hh1, hb]; exact e
  have n1 : h1.n = h.n := by rw [hh1]; split <;> rfl
  have f1 : ∀ i, i ≠ p → h1.ob i = h.ob i := fun i hi => by rw [hh1]; split <;> first | exact set_ne _ hi | rfl
  have w1 : Pcs n0 p h1 v L := w.keep (by omega) (fun i _ hi => f1 i hi)
  have hp1 : p < h1.n := by omega
  have fr1 : Fr n0 h h1 := ⟨by omega, fun i hi => f1 i (by omega)⟩
  rw [← hh1] at hT0
  have t := Txt.of s b hb1.2
  have hbx := brk_ix s b hb1.2
  have hlt := ixB_lt (s.extract b s.size) 93 (by decide)
  have hC := Cut_c (s.extract b s.size) (by rw [t.size]; omega)
  have hle : L.length = out.length := by rw [← hL]; simp
  have eP : pSet s k out = (if brk s b = s.size ∨ brk s b = b then none else some (brk s b + 1, out ++ [⟨if isAt s k 94 then 4 else 3, s.extract b (brk s b), []⟩], out.length)) := by unfold pSet; rw [← hb]
  rw [eP]
  have bad : ∀ r : Nat, Ro (cI s) s n0 p h (out.length + 2 * (s.size - k)) none (.int .i64 (r : Nat)) (h1.set p (.cells [.string (s.extract b s.size), v, .bool true] .solo p)) := fun r =>
    ⟨fr1.set hn _, .inr ⟨rfl, ⟨r, rfl⟩, Rb.atP hp1 hn w1 (by omega) hb1.2⟩⟩
  unfold cutO at hC
  rw [t.size] at hC
  have ts := t.size
  have tm := t.mid
  have tr := t.rest
  generalize s.extract b s.size = T at *
  generalize ixB T 93 = x at *
  clear hh1 hb eP
  generalize hop : (if isAt s k 94 = true then 4 else 3) = op at *
  have op1 : isAt s k 94 = true → op = 4 := fun e => by rw [if_pos e] at hop; omega
  have op2 : isAt s k 94 = false → op = 3 := fun e => by rw [e] at hop; simp at hop; omega
  rcases hlt with rfl | ⟨o, rfl, ho⟩
  · rw [if_pos (by omega)] at hC hbx
    rw [if_pos (.inl hbx)]
    refine CC.ofN Try.func210 Try.ntmps210 Try.results210 rfl (by decide) (by kernel_rfl) ?_
    simp (maxSteps := 1000000) -implicitDefEqProofs only [push_cast, seval]
    with_reducible refine CD.to hT0 ?_
    simp (maxSteps := 1000000) -implicitDefEqProofs only [push_cast, seval]
    clear hT0
    cases hc : isAt s k 94 with
    | true =>
      simp (maxSteps := 1000000) -implicitDefEqProofs only [push_cast, seval, e1, rd_of e1, rd1_of e1, hp1]
      with_reducible refine CD.to (hC _) ?_
      simp (maxSteps := 1000000) -implicitDefEqProofs only [push_cast, seval, e1, rd_of e1, rd1_of e1, hp1]
      exact bad 0
    | false =>
      simp (maxSteps := 1000000) -implicitDefEqProofs only [push_cast, seval, e1, rd_of e1, rd1_of e1, hp1]
      with_reducible refine CD.to (hC _) ?_
      simp (maxSteps := 1000000) -implicitDefEqProofs only [push_cast, seval, e1, rd_of e1, rd1_of e1, hp1]
      exact bad 0
  · rw [if_neg (by omega), show ((o : Int)).toNat = o from rfl] at hC hbx
    have hE : (T.extract 0 o = ⟨#[]⟩) = (o = 0) := propext ⟨fun e => by
      have := congrArg ByteArray.size e
      rw [ByteArray.size_extract] at this
      have e0 : (⟨#[]⟩ : ByteArray).size = 0 := rfl
      omega, fun e => by subst e; exact ByteArray.ext (Array.eq_empty_of_size_eq_zero (by show (T.extract 0 0).size = 0; rw [ByteArray.size_extract]; omega))⟩
    have tm' := tm o (by omega)
    have tr' := tr (o + 1) (by omega)
    rw [hbx]
    have hP : pSet s k out = pSet s k out := rfl
    have good : 0 < o → ∀ (h2 : AH) (y : Value), (y = .int .i64 (out.length : Nat) ∧ Fr n0 (h1.set p (.cells (cI s (b + (o + 1)) false v) .solo p)) h2 ∧ Rg (cI s) s n0 p h2 (b + (o + 1)) (out ++ [⟨op, T.extract 0 o, []⟩])) →
        Ro (cI s) s n0 p h (out.length + 2 * (s.size - k)) (if b + o = s.size ∨ b + o = b then none else some (b + o + 1, out ++ [⟨op, s.extract b (b + o), []⟩], out.length)) y h2 := fun h0 h2 y hy => by
      rw [if_neg (by omega), ← tm']
      exact ⟨(fr1.set hn _).trans hy.2.1, .inl ⟨_, _, _, rfl, hy.1, hy.2.2⟩⟩
    have hR : Rg (cI s) s n0 p (h1.set p (.cells (cI s (b + (o + 1)) false v) .solo p)) (b + (o + 1)) out := by rw [← hL]; exact Rg.at hp1 hn w1 (by omega)
    have hU : ∀ oi : Int, (op : Int) = oi → _ := fun oi hoi => putG n0 p s (b + (o + 1)) out (.slice none 0 0) op oi hoi (T.extract 0 o) [] _ hR (by omega) (RdV.nil _ _ _ _) (by simp)
    simp only [cI] at hU
    refine CC.ofN Try.func210 Try.ntmps210 Try.results210 rfl (by decide) (by kernel_rfl) ?_
    simp (maxSteps := 1000000) -implicitDefEqProofs only [push_cast, seval]
    with_reducible refine CD.to hT0 ?_
    simp (maxSteps := 1000000) -implicitDefEqProofs only [push_cast, seval]
    clear hT0
    cases hc : isAt s k 94 with
    | true =>
      simp (maxSteps := 1000000) -implicitDefEqProofs only [push_cast, seval, e1, rd_of e1, rd1_of e1, hp1]
      with_reducible refine CD.to (hC _) ?_
      simp (maxSteps := 1000000) -implicitDefEqProofs only [push_cast, seval, e1, rd_of e1, rd1_of e1, hp1, hE]
      with_reducible refine bcase_d (fun hb => ?_) (fun hb => ?_)
      · rw [if_pos (.inr (by omega))]
        simp (maxSteps := 1000000) -implicitDefEqProofs only [push_cast, seval, e1, rd_of e1, rd1_of e1, hp1]
        exact bad 0
      · simp (maxSteps := 1000000) -implicitDefEqProofs only [push_cast, seval, e1, rd_of e1, rd1_of e1, hp1, tr']
        with_reducible refine CC.mono (hU 4 (by have := op1 hc; omega)) (fun y h2 hy => ?_)
        have gd := good (by omega) h2 y hy
        have ey := hy.1
        clear hy
        subst ey
        simp (maxSteps := 1000000) -implicitDefEqProofs only [push_cast, seval]
        exact gd
    | false =>
      simp (maxSteps := 1000000) -implicitDefEqProofs only [push_cast, seval, e1, rd_of e1, rd1_of e1, hp1]
      with_reducible refine CD.to (hC _) ?_
      simp (maxSteps := 1000000) -implicitDefEqProofs only [push_cast, seval, e1, rd_of e1, rd1_of e1, hp1, hE]
      with_reducible refine bcase_d (fun hb => ?_) (fun hb => ?_)
      · rw [if_pos (.inr (by omega))]
        simp (maxSteps := 1000000) -implicitDefEqProofs only [push_cast, seval, e1, rd_of e1, rd1_of e1, hp1]
        exact bad 0
      · simp (maxSteps := 1000000) -implicitDefEqProofs only [push_cast, seval, e1, rd_of e1, rd1_of e1, hp1, tr']
        with_reducible refine CC.mono (hU 3 (by have := op2 hc; omega)) (fun y h2 hy => ?_)
        have gd := good (by omega) h2 y hy
        have ey := hy.1
        clear hy
        subst ey
        simp (maxSteps := 1000000) -implicitDefEqProofs only [push_cast, seval]
        exact gd
end Go.Proofs.Ytciajhpeikemoaa
namespace Go.Proofs.Ytciajhpeikemoaa
open Go Go.Sim Go.Proofs
set_option linter.unusedSimpArgs false
set_option linter.unusedVariables false
set_option maxRecDepth 100000
set_option maxHeartbeats 1000000
theorem signs_all : ∀ c : Fin 256, decide (0 ≤ ixB ⟨#[42, 43, 63, 124, 40, 41, 91, 93, 46, 94, 36, 92]⟩ c.val) = special c.val := by decide
theorem signs_ix (c : Nat) (hc : c < 256) : (0 ≤ ixB ⟨#[42, 43, 63, 124, 40, 41, 91, 93, 46, 94, 36, 92]⟩ c) = (special c = true) := by
  rw [← signs_all ⟨c, hc⟩]; simp
theorem single_i (n0 p : Nat) (s : ByteArray) (k : Nat) (out : List Pc) (h : AH) (hs : s.size ≤ 24) (G : Rg (cI s) s n0 p h k out) (hj : out.length + 2 * (s.size - k) ≤ 100) :
    CC Try.prog 212 [.pointer (some ⟨p, 0, none⟩)] h (Ro (cI s) s n0 p h (out.length + 2 * (s.size - k)) (pSingle s k out)) := by
  have hp := G.lt
  have hn := G.le
  have hk := G.hi
  obtain ⟨v, L, e, w, hL⟩ := G.ex
  have hT0 := takeD p s k false v 92 92 rfl h e hp hk hs
  obtain ⟨b, hb⟩ : ∃ b, b = (if isAt s k 92 = true then k + 1 else k) := ⟨_, rfl⟩
  obtain ⟨h1, hh1⟩ : ∃ h1, h1 = (if isAt s k 92 = true then h.set p (.cells (cI s (k + 1) false v) .solo p) else h) := ⟨_, rfl⟩
  have hb1 : k ≤ b ∧ b ≤ s.size := by
    by_cases hc : isAt s k 92 = true
    · rw [if_pos hc] at hb; have := isAt_lt hc; omega
    · rw [if_neg hc] at hb; omega
  have e1 : h1.ob p = .cells [.string (s.extract b s.size), v, .bool false] .solo p := by
    by_cases hc : isAt s k 92 = true
    · rw [if_pos hc] at hb hh1; rw [hh1, hb]; exact set_same _ _
    · rw [if_neg hc] at hb hh1; rw [hh1, hb]; exact e
  have n1 : h1.n = h.n := by rw [hh1]; split <;> rfl
  have f1 : ∀ i, i ≠ p → h1.ob i = h.ob i := fun i hi => by rw [hh1]; split <;> first | exact set_ne _ hi | rfl
  have w1 : Pcs n0 p h1 v L := w.keep (by omega) (fun i _ hi => f1 i hi)
  have hp1 : p < h1.n := by omega
  have fr1 : Fr n0 h h1 := ⟨by omega, fun i hi => f1 i (by omega)⟩
  rw [← hh1] at hT0
  have t := Txt.of s b hb1.2
  have hle : L.length = out.length := by rw [← hL]; simp
  have eP : pSingle s k out = (if b < s.size ∧ isAt s k 92 = special (byteAt s b).toNat then some (b + 1, out ++ [⟨1, s.extract b (b + 1), []⟩], out.length) else none) := by unfold pSingle; rw [← hb]
  rw [eP]
  have bad : ∀ r : Nat, Ro (cI s) s n0 p h (out.length + 2 * (s.size - k)) none (.int .i64 (r : Nat)) (h1.set p (.cells [.string (s.extract b s.size), v, .bool true] .solo p)) := fun r =>
    ⟨fr1.set hn _, .inr ⟨rfl, ⟨r, rfl⟩, Rb.atP hp1 hn w1 (by omega) hb1.2⟩⟩
  have ts := t.size
  have tE := t.emp
  by_cases hbs : b < s.size
  · have tm := t.mid 1 (by omega)
    have tr := t.rest 1 (by omega)
    have tb := t.byte 0 (by omega)
    rw [Nat.add_zero] at tb
    have tb := congrArg UInt8.toNat tb
    have hsp := signs_ix (byteAt s b).toNat (by have := (byteAt s b).toNat_lt; omega)
    have good : ∀ (h2 : AH) (y : Value), (y = .int .i64 (out.length : Nat) ∧ Fr n0 (h1.set p (.cells (cI s (b + 1) false v) .solo p)) h2 ∧ Rg (cI s) s n0 p h2 (b + 1) (out ++ [⟨1, s.extract b (b + 1), []⟩])) →
        Ro (cI s) s n0 p h (out.length + 2 * (s.size - k)) (some (b + 1, out ++ [⟨1, s.extract b (b + 1), []⟩], out.length)) y h2 := fun h2 y hy =>
      ⟨(fr1.set hn _).trans hy.2.1, .inl ⟨_, _, _, rfl, hy.1, hy.2.2⟩⟩
    have hR : Rg (cI s) s n0 p (h1.set p (.cells (cI s (b + 1) false v) .solo p)) (b + 1) out := by rw [← hL]; exact Rg.at hp1 hn w1 (by omega)
    have hU := putG n0 p s (b + 1) out (.slice none 0 0) 1 1 rfl (s.extract b (b + 1)) [] _ hR (by omega) (RdV.nil _ _ _ _) (by simp)
    simp only [cI] at hU
    have hI := IndexByte_c ⟨#[42, 43, 63, 124, 40, 41, 91, 93, 46, 94, 36, 92]⟩ (byteAt s b).toNat
    generalize s.extract b s.size = T at *
    generalize (byteAt s b).toNat = B at *
    generalize ixB ⟨#[42, 43, 63, 124, 40, 41, 91, 93, 46, 94, 36, 92]⟩ B = x at *
    clear hh1 hb eP
    refine CC.ofN Try.func212 Try.ntmps212 Try.results212 rfl (by decide) (by kernel_rfl) ?_
    simp (maxSteps := 1000000) -implicitDefEqProofs only [push_cast, seval]
    with_reducible refine CD.to hT0 ?_
    simp (maxSteps := 1000000) -implicitDefEqProofs only [push_cast, seval]
    clear hT0
    simp (maxSteps := 1000000) -implicitDefEqProofs only [push_cast, seval, e1, rd_of e1, rd1_of e1, hp1, tE, ts, tb]
    with_reducible refine bcase_d (fun hb => ?_) (fun hb => ?_)
    · exfalso; omega
    simp (maxSteps := 1000000) -implicitDefEqProofs only [push_cast, seval, e1, rd_of e1, rd1_of e1, hp1, tE, ts, tb]
    repeat (with_reducible refine And.intro ?_ ?_; · (first | omega | decide))
    with_reducible refine CD.to (hI _) ?_
    simp (maxSteps := 1000000) -implicitDefEqProofs only [push_cast, seval, e1, rd_of e1, rd1_of e1, hp1, tE, ts, tb, hsp]
    with_reducible refine bcase_mk (fun hb => ?_) (fun hb => ?_)
    · have hb' : isAt s k 92 = special B := by
        have := beq_iff_eq.1 hb
        rw [this]; simp
      rw [if_pos ⟨hbs, hb'⟩]
      simp (maxSteps := 1000000) -implicitDefEqProofs only [push_cast, seval, e1, rd_of e1, rd1_of e1, hp1, tE, ts, tb, tm, tr]
      repeat (with_reducible refine And.intro ?_ ?_; · (first | omega | decide))
      with_reducible refine CC.mono hU (fun y h2 hy => ?_)
      have gd := good h2 y hy
      have ey := hy.1
      clear hy
      subst ey
      simp (maxSteps := 1000000) -implicitDefEqProofs only [push_cast, seval]
      exact gd
    · have hb' : ¬ isAt s k 92 = special B := fun hh => by rw [hh] at hb; simp at hb
      rw [if_neg (fun hh => hb' hh.2)]
      simp (maxSteps := 1000000) -implicitDefEqProofs only [push_cast, seval, e1, rd_of e1, rd1_of e1, hp1, tE, ts, tb]
      exact bad 0
  · rw [if_neg (fun hh => hbs hh.1)]
    generalize s.extract b s.size = T at *
    clear hh1 hb eP
    have tN : T = ⟨#[]⟩ := by rw [tE]; omega
    refine CC.ofN Try.func212 Try.ntmps212 Try.results212 rfl (by decide) (by kernel_rfl) ?_
    simp (maxSteps := 1000000) -implicitDefEqProofs only [push_cast, seval]
    with_reducible refine CD.to hT0 ?_
    simp (maxSteps := 1000000) -implicitDefEqProofs only [push_cast, seval]
    clear hT0
    simp (maxSteps := 1000000) -implicitDefEqProofs only [push_cast, seval, e1, rd_of e1, rd1_of e1, hp1, tN]
    rw [tN] at bad
    exact bad 0
end Go.Proofs.Ytciajhpeikemoaa
namespace Go.Proofs.Ytciajhpeikemoaa
open Go Go.Sim Go.Proofs
set_option linter.unusedSimpArgs false
set_option linter.unusedVariables false
set_option maxRecDepth 100000
set_option maxHeartbeats 1000000
/-- What a reading method owes, from a place on. -/
def OweI (fn : FuncId) (s : ByteArray) (lo : Nat) (rd : Nat → List Pc → PRes) : Prop := ∀ n0 p k out h, lo ≤ k → Rg (cI s) s n0 p h k out → out.length + 2 * (s.size - k) ≤ 100 → CC Try.prog fn [.pointer (some ⟨p, 0, none⟩)] h (Ro (cI s) s n0 p h (out.length + 2 * (s.size - k)) (rd k out))
theorem group_i (n0 p : Nat) (s : ByteArray) (k : Nat) (out : List Pc) (h : AH) (hs : s.size ≤ 24) (alt : Nat → List Pc → PRes) (ha : OweI 49 s k alt) (hg : GoodR 1 s alt) (G : Rg (cI s) s n0 p h k out) (hj : out.length + 2 * (s.size - k) ≤ 100) :
    CC Try.prog 211 [.pointer (some ⟨p, 0, none⟩)] h (Ro (cI s) s n0 p h (out.length + 2 * (s.size - k) + 1) (pClose s (alt k out))) := by
  have hA := ha n0 p k out h (Nat.le_refl _) G hj
  have hb0 := fun k' o' r => hg k out k' o' r G.hi
  generalize alt k out = res at *
  have hn := G.le
  refine CC.ofN Try.func211 Try.ntmps211 Try.results211 rfl (by decide) (by kernel_rfl) ?_
  simp (maxSteps := 1000000) -implicitDefEqProofs only [push_cast, seval]
  with_reducible refine CC.mono hA (fun y h1 hy => ?_)
  with_reducible refine hy.cases (fun k1 o1 r1 er ey f1 G1 => ?_) (fun er r1 ey f1 B1 => ?_)
  · clear hy
    subst ey er
    have hb1 := (hb0 _ _ _ rfl).pot
    have hp1 := G1.lt
    have hk1 := G1.hi
    with_reducible refine G1.cell (fun v L e w hL hl => ?_)
    have hT := takeD p s k1 false v 41 41 rfl h1 e G1.lt G1.hi hs
    simp only [cI] at e
    simp (maxSteps := 1000000) -implicitDefEqProofs only [push_cast, seval]
    with_reducible refine CD.to hT ?_
    clear hT
    simp only [pClose]
    cases hc : isAt s k1 41 with
    | true =>
      simp (maxSteps := 1000000) -implicitDefEqProofs only [push_cast, seval, e, rd_of e, rd1_of e, hp1]
      have := isAt_lt hc
      refine Ro.some (f1.set hn _) ?_
      rw [← hL]
      exact Rg.at hp1 hn w (by omega)
    | false =>
      simp (maxSteps := 1000000) -implicitDefEqProofs only [push_cast, seval, e, rd_of e, rd1_of e, hp1]
      exact Ro.none (f1.set hn _) (Rb.atP hp1 hn w (by omega) hk1)
  · clear hy
    subst ey er
    simp (maxSteps := 1000000) -implicitDefEqProofs only [push_cast, seval]
    with_reducible refine CC.mono (takeB n0 p _ s 41 41 rfl h1 B1 hs) (fun y2 h2 hy2 => ?_)
    with_reducible refine Exists.elim hy2.1 (fun b eb => ?_)
    have f2 := hy2.2.1
    have B2 := hy2.2.2
    clear hy2
    subst eb
    have hp2 := B2.lt
    with_reducible refine B2.cell (fun k v cs j a e g d c f => ?_)
    simp only [cI] at e
    simp (maxSteps := 1000000) -implicitDefEqProofs only [push_cast, seval]
    with_reducible refine bcase_mk (fun hb => ?_) (fun hb => ?_)
    · simp (maxSteps := 1000000) -implicitDefEqProofs only [push_cast, seval, e, rd_of e, rd1_of e, hp2]
      exact Ro.none (f1.trans f2) (B2.mono (by omega))
    · simp (maxSteps := 1000000) -implicitDefEqProofs only [push_cast, seval, e, rd_of e, rd1_of e, hp2]
      exact Ro.none ((f1.trans f2).set hn _) (Rb.at hp2 hn g d (by omega) f a)
theorem base_i (n0 p : Nat) (s : ByteArray) (k : Nat) (out : List Pc) (h : AH) (hs : s.size ≤ 24) (alt : Nat → List Pc → PRes) (ha : OweI 49 s (k + 1) alt) (hg : GoodR 1 s alt) (G : Rg (cI s) s n0 p h k out) (hj : out.length + 2 * (s.size - k) ≤ 100) :
    CC Try.prog 184 [.pointer (some ⟨p, 0, none⟩)] h (Ro (cI s) s n0 p h (out.length + 2 * (s.size - k)) (pBase alt s k out)) := by
  have hp := G.lt
  have hn := G.le
  have hk := G.hi
  with_reducible refine G.cell (fun v L e w hL hl => ?_)
  have hT := fun (c : Nat) (ci : Int) (hci : (c : Int) = ci) => takeD p s k false v c ci hci h e hp hk hs
  have hm : ∀ c, isAt s k c = true → Rg (cI s) s n0 p (h.set p (.cells (cI s (k + 1) false v) .solo p)) (k + 1) out ∧ k < s.size := fun c hc => by
    have := isAt_lt hc
    rw [← hL]
    exact ⟨Rg.at hp hn w (by omega), this⟩
  have fr : Fr n0 h (h.set p (.cells (cI s (k + 1) false v) .solo p)) := (Fr.refl _ _).set hn _
  generalize hH : h.set p (.cells (cI s (k + 1) false v) .solo p) = H at *
  have leaf : ∀ (op : Nat) (oi : Int) (hoi : (op : Int) = oi) (c : Nat), isAt s k c = true → CC Try.prog 105 [.pointer (some ⟨p, 0, none⟩), .int .i64 oi, .string ⟨#[]⟩, .slice none 0 0] H (Ro (cI s) s n0 p h (out.length + 2 * (s.size - k)) (some (k + 1, out ++ [⟨op, ⟨#[]⟩, []⟩], out.length))) := fun op oi hoi c hc =>
    CC.mono (putG n0 p s (k + 1) out (.slice none 0 0) op oi hoi ⟨#[]⟩ [] H (hm c hc).1 (by omega) (RdV.nil _ _ _ _) (by simp)) (fun y h2 hy => by rw [hy.1]; exact Ro.some (fr.trans hy.2.1) hy.2.2)
  have dT : ∀ (c : Nat) (ci : Int) (hci : (c : Int) = ci), isAt s k c = true → CD Try.prog 104 [.pointer (some ⟨p, 0, none⟩), .int .u8 ci] h (.bool true) H := fun c ci hci hc => by have := hT c ci hci; rw [hc] at this; exact this
  have dF : ∀ (c : Nat) (ci : Int) (hci : (c : Int) = ci), isAt s k c = false → CD Try.prog 104 [.pointer (some ⟨p, 0, none⟩), .int .u8 ci] h (.bool false) h := fun c ci hci hc => by have := hT c ci hci; rw [hc] at this; exact this
  clear hT
  unfold pBase
  by_cases x0 : isAt s k 94 = true
  · rw [if_pos x0]
    refine CC.ofN Try.func184 Try.ntmps184 Try.results184 rfl (by decide) (by kernel_rfl) ?_
    simp (maxSteps := 1000000) -implicitDefEqProofs only [push_cast, seval]
    with_reducible refine CD.to (dT 94 94 rfl x0) ?_
    simp (maxSteps := 1000000) -implicitDefEqProofs only [push_cast, seval]
    with_reducible refine CC.mono (leaf 10 10 rfl 94 x0) (fun y h2 hy => ?_)
    simp (maxSteps := 1000000) -implicitDefEqProofs only [push_cast, seval]
    exact hy
  rw [if_neg x0]
  have c0 := Bool.eq_false_iff.2 x0
  by_cases x1 : isAt s k 36 = true
  · rw [if_pos x1]
    refine CC.ofN Try.func184 Try.ntmps184 Try.results184 rfl (by decide) (by kernel_rfl) ?_
    simp (maxSteps := 1000000) -implicitDefEqProofs only [push_cast, seval]
    with_reducible refine CD.to (dF 94 94 rfl c0) ?_
    simp (maxSteps := 1000000) -implicitDefEqProofs only [push_cast, seval]
    with_reducible refine CD.to (dT 36 36 rfl x1) ?_
    simp (maxSteps := 1000000) -implicitDefEqProofs only [push_cast, seval]
    with_reducible refine CC.mono (leaf 11 11 rfl 36 x1) (fun y h2 hy => ?_)
    simp (maxSteps := 1000000) -implicitDefEqProofs only [push_cast, seval]
    exact hy
  rw [if_neg x1]
  have c1 := Bool.eq_false_iff.2 x1
  by_cases x2 : isAt s k 46 = true
  · rw [if_pos x2]
    refine CC.ofN Try.func184 Try.ntmps184 Try.results184 rfl (by decide) (by kernel_rfl) ?_
    simp (maxSteps := 1000000) -implicitDefEqProofs only [push_cast, seval]
    with_reducible refine CD.to (dF 94 94 rfl c0) ?_
    simp (maxSteps := 1000000) -implicitDefEqProofs only [push_cast, seval]
    with_reducible refine CD.to (dF 36 36 rfl c1) ?_
    simp (maxSteps := 1000000) -implicitDefEqProofs only [push_cast, seval]
    with_reducible refine CD.to (dT 46 46 rfl x2) ?_
    simp (maxSteps := 1000000) -implicitDefEqProofs only [push_cast, seval]
    with_reducible refine CC.mono (leaf 2 2 rfl 46 x2) (fun y h2 hy => ?_)
    simp (maxSteps := 1000000) -implicitDefEqProofs only [push_cast, seval]
    exact hy
  rw [if_neg x2]
  have c2 := Bool.eq_false_iff.2 x2
  by_cases x3 : isAt s k 91 = true
  · rw [if_pos x3]
    refine CC.ofN Try.func184 Try.ntmps184 Try.results184 rfl (by decide) (by kernel_rfl) ?_
    simp (maxSteps := 1000000) -implicitDefEqProofs only [push_cast, seval]
    with_reducible refine CD.to (dF 94 94 rfl c0) ?_
    simp (maxSteps := 1000000) -implicitDefEqProofs only [push_cast, seval]
    with_reducible refine CD.to (dF 36 36 rfl c1) ?_
    simp (maxSteps := 1000000) -implicitDefEqProofs only [push_cast, seval]
    with_reducible refine CD.to (dF 46 46 rfl c2) ?_
    simp (maxSteps := 1000000) -implicitDefEqProofs only [push_cast, seval]
    with_reducible refine CD.to (dT 91 91 rfl x3) ?_
    simp (maxSteps := 1000000) -implicitDefEqProofs only [push_cast, seval]
    have hx := (hm 91 x3).2
    with_reducible refine CC.mono (set_i n0 p s (k + 1) out H hs (hm 91 x3).1 (by omega)) (fun y h2 hy => ?_)
    simp (maxSteps := 1000000) -implicitDefEqProofs only [push_cast, seval]
    exact hy.from fr (by omega)
  rw [if_neg x3]
  have c3 := Bool.eq_false_iff.2 x3
  by_cases x4 : isAt s k 40 = true
  · rw [if_pos x4]
    refine CC.ofN Try.func184 Try.ntmps184 Try.results184 rfl (by decide) (by kernel_rfl) ?_
    simp (maxSteps := 1000000) -implicitDefEqProofs only [push_cast, seval]
    with_reducible refine CD.to (dF 94 94 rfl c0) ?_
    simp (maxSteps := 1000000) -implicitDefEqProofs only [push_cast, seval]
    with_reducible refine CD.to (dF 36 36 rfl c1) ?_
    simp (maxSteps := 1000000) -implicitDefEqProofs only [push_cast, seval]
    with_reducible refine CD.to (dF 46 46 rfl c2) ?_
    simp (maxSteps := 1000000) -implicitDefEqProofs only [push_cast, seval]
    with_reducible refine CD.to (dF 91 91 rfl c3) ?_
    simp (maxSteps := 1000000) -implicitDefEqProofs only [push_cast, seval]
    with_reducible refine CD.to (dT 40 40 rfl x4) ?_
    simp (maxSteps := 1000000) -implicitDefEqProofs only [push_cast, seval]
    have hx := (hm 40 x4).2
    with_reducible refine CC.mono (group_i n0 p s (k + 1) out H hs alt ha hg (hm 40 x4).1 (by omega)) (fun y h2 hy => ?_)
    simp (maxSteps := 1000000) -implicitDefEqProofs only [push_cast, seval]
    exact hy.from fr (by omega)
  rw [if_neg x4]
  have c4 := Bool.eq_false_iff.2 x4
  refine CC.ofN Try.func184 Try.ntmps184 Try.results184 rfl (by decide) (by kernel_rfl) ?_
  simp (maxSteps := 1000000) -implicitDefEqProofs only [push_cast, seval]
  with_reducible refine CD.to (dF 94 94 rfl c0) ?_
  simp (maxSteps := 1000000) -implicitDefEqProofs only [push_cast, seval]
  with_reducible refine CD.to (dF 36 36 rfl c1) ?_
  simp (maxSteps := 1000000) -implicitDefEqProofs only [push_cast, seval]
  with_reducible refine CD.to (dF 46 46 rfl c2) ?_
  simp (maxSteps := 1000000) -implicitDefEqProofs only [push_cast, seval]
  with_reducible refine CD.to (dF 91 91 rfl c3) ?_
  simp (maxSteps := 1000000) -implicitDefEqProofs only [push_cast, seval]
  with_reducible refine CD.to (dF 40 40 rfl c4) ?_
  simp (maxSteps := 1000000) -implicitDefEqProofs only [push_cast, seval]
  with_reducible refine CC.mono (single_i n0 p s k out h hs G (by omega)) (fun y h2 hy => ?_)
  simp (maxSteps := 1000000) -implicitDefEqProofs only [push_cast, seval]
  exact hy
end Go.Proofs.Ytciajhpeikemoaa
namespace Go.Proofs.Ytciajhpeikemoaa
open Go Go.Sim Go.Proofs
set_option linter.unusedSimpArgs false
set_option linter.unusedVariables false
set_option maxRecDepth 100000
set_option maxHeartbeats 1000000
theorem takeG (n0 p : Nat) (s : ByteArray) (k : Nat) (out : List Pc) (c : Nat) (ci : Int) (hci : (c : Int) = ci) (h : AH) (hs : s.size ≤ 24) (G : Rg (cI s) s n0 p h k out) :
    CC Try.prog 104 [.pointer (some ⟨p, 0, none⟩), .int .u8 ci] h (fun y h' => (isAt s k c = true ∧ y = .bool true ∧ Fr n0 h h' ∧ Rg (cI s) s n0 p h' (k + 1) out) ∨ (isAt s k c = false ∧ y = .bool false ∧ h' = h)) := by
  obtain ⟨v, L, e, w, hL⟩ := G.ex
  refine CC.mono (takeD p s k false v c ci hci h e G.lt G.hi hs) (fun y h' hy => ?_)
  obtain ⟨rfl, rfl⟩ := hy
  cases hc : isAt s k c with
  | true =>
    have := isAt_lt hc
    refine .inl ⟨rfl, rfl, (Fr.refl _ _).set G.le _, ?_⟩
    rw [← hL]
    exact Rg.at G.lt G.le w (by omega)
  | false => exact .inr ⟨rfl, rfl, rfl⟩
theorem putG1 (n0 p : Nat) (s : ByteArray) (k : Nat) (out : List Pc) (op r : Nat) (oi : Int) (hoi : (op : Int) = oi) (h : AH) (G : Rg (cI s) s n0 p h k out) (hj : out.length ≤ 500) :
    CC Try.prog 105 [.pointer (some ⟨p, 0, none⟩), .int .i64 oi, .string ⟨#[]⟩, .slice (some ⟨h.n, 0, none⟩) 1 1] (h.alloc (.cells [.int .i64 (r : Nat)] .solo h.n)) (fun y h' => y = .int .i64 (out.length : Nat) ∧ Fr n0 h h' ∧ Rg (cI s) s n0 p h' k (out ++ [⟨op, ⟨#[]⟩, [r]⟩])) :=
  CC.mono (putG n0 p s k out _ op oi hoi ⟨#[]⟩ [r] _ (G.pre ((Pre.refl h).alloc _)) hj (RdV.lit [r] 1) (by simp)) (fun y h' hy => ⟨hy.1, ((Fr.refl n0 h).alloc (by have := G.lt; have := G.le; omega) _).trans hy.2.1, hy.2.2⟩)
theorem putG2 (n0 p : Nat) (s : ByteArray) (k : Nat) (out : List Pc) (op r r' : Nat) (oi : Int) (hoi : (op : Int) = oi) (h : AH) (G : Rg (cI s) s n0 p h k out) (hj : out.length ≤ 500) :
    CC Try.prog 105 [.pointer (some ⟨p, 0, none⟩), .int .i64 oi, .string ⟨#[]⟩, .slice (some ⟨h.n, 0, none⟩) 2 1] (h.alloc (.cells [.int .i64 (r : Nat), .int .i64 (r' : Nat)] .solo h.n)) (fun y h' => y = .int .i64 (out.length : Nat) ∧ Fr n0 h h' ∧ Rg (cI s) s n0 p h' k (out ++ [⟨op, ⟨#[]⟩, [r, r']⟩])) :=
  CC.mono (putG n0 p s k out _ op oi hoi ⟨#[]⟩ [r, r'] _ (G.pre ((Pre.refl h).alloc _)) hj (RdV.lit [r, r'] 1) (by simp)) (fun y h' hy => ⟨hy.1, ((Fr.refl n0 h).alloc (by have := G.lt; have := G.le; omega) _).trans hy.2.1, hy.2.2⟩)
theorem putB2 (n0 p m : Nat) (s : ByteArray) (op r r' : Nat) (oi : Int) (hoi : (op : Int) = oi) (h : AH) (G : Rb (cI s) s n0 p h m) (hj : m ≤ 500) :
    CC Try.prog 105 [.pointer (some ⟨p, 0, none⟩), .int .i64 oi, .string ⟨#[]⟩, .slice (some ⟨h.n, 0, none⟩) 2 1] (h.alloc (.cells [.int .i64 (r : Nat), .int .i64 (r' : Nat)] .solo h.n)) (fun y h' => (∃ r : Nat, y = .int .i64 (r : Nat)) ∧ Fr n0 h h' ∧ Rb (cI s) s n0 p h' (m + 1)) :=
  CC.mono (putB n0 p m s _ op oi hoi ⟨#[]⟩ [r, r'] _ (G.pre ((Pre.refl h).alloc _)) hj (RdV.lit [r, r'] 1) (by simp)) (fun y h' hy => ⟨hy.1, ((Fr.refl n0 h).alloc (by have := G.lt; have := G.le; omega) _).trans hy.2.1, hy.2.2⟩)
/-- Where a loop stands: g is what may be done yet, cont what comes of it. -/
def LpI (s : ByteArray) (n0 p : Nat) (h : AH) (m : Nat) (cont : Nat → Nat → List Pc → Nat → PRes) (res : PRes) (a : Nat × Nat × List Pc × Nat) (h' : AH) : Prop :=
  Fr n0 h h' ∧ ((s.size - a.2.1 < a.1 ∧ Rg (cI s) s n0 p h' a.2.1 a.2.2.1 ∧ cont a.1 a.2.1 a.2.2.1 a.2.2.2 = res ∧ a.2.2.1.length + 2 * (s.size - a.2.1) ≤ m) ∨ (a.1 = 0 ∧ res = none ∧ Rb (cI s) s n0 p h' m))
def LgI (s : ByteArray) (n0 p : Nat) (h : AH) (m : Nat) (cont : Nat → Nat → List Pc → Nat → PRes) (res : PRes) (a : Nat × Nat × List Pc × Nat) (h' : AH) : Prop :=
  Fr n0 h h' ∧ s.size - a.2.1 < a.1 ∧ Rg (cI s) s n0 p h' a.2.1 a.2.2.1 ∧ cont a.1 a.2.1 a.2.2.1 a.2.2.2 = res ∧ a.2.2.1.length + 2 * (s.size - a.2.1) ≤ m
theorem thing_i (n0 p : Nat) (s : ByteArray) (k : Nat) (out : List Pc) (h : AH) (hs : s.size ≤ 24) (alt : Nat → List Pc → PRes) (ha : OweI 49 s (k + 1) alt) (hg : GoodR 1 s alt) (G : Rg (cI s) s n0 p h k out) (hj : out.length + 2 * (s.size - k) ≤ 100) :
    CC Try.prog 152 [.pointer (some ⟨p, 0, none⟩)] h (Ro (cI s) s n0 p h (out.length + 2 * (s.size - k)) (pThing alt s k out)) := by
  have hb0 := fun k' o' r => pBase_gd hg k out k' o' r G.hi
  have hB := base_i n0 p s k out h hs alt ha hg G hj
  have hp := G.lt
  have hn := G.le
  generalize hm : out.length + 2 * (s.size - k) = m at *
  unfold pThing
  generalize pBase alt s k out = res at *
  refine CC.ofN Try.func152 Try.ntmps152 Try.results152 rfl (by decide) (by kernel_rfl) ?_
  simp (maxSteps := 1000000) -implicitDefEqProofs only [push_cast, seval]
  with_reducible refine CC.mono hB (fun y h1 hy => ?_)
  clear hB
  with_reducible refine hy.cases (fun k1 o1 r1 er ey f1 G1 => ?_) (fun er r1 ey f1 B1 => ?_)
  · clear hy
    subst ey er
    have hb1 := (hb0 _ _ _ rfl).pot
    have hp1 := G1.lt
    have hk1 := G1.hi
    simp (maxSteps := 1000000) -implicitDefEqProofs only [push_cast, seval]
    simp only
    generalize hres : some (pStars s (s.size + 1) k1 o1 r1) = res
    refine WC.loopA (by kernel_rfl) [3] [2, 6, 7, 8, 9, 10, 11, 12, 13, 14, 15, 16, 17, 18, 19, 20, 21, 22, 23, 24, 25, 26, 27, 28, 29, 30, 31, 32] (fun a : Nat × Nat × List Pc × Nat => [.int .i64 (a.2.2.2 : Nat)]) (LgI s n0 p h m (fun g k o r => some (pStars s g k o r)) res) (fun a => a.1) (s.size + 1, k1, o1, r1) (by kernel_rfl) ⟨f1, by show s.size - k1 < s.size + 1; omega, G1, hres, by show o1.length + 2 * (s.size - k1) ≤ m; omega⟩ ?_
    clear G1 hp1 hk1 f1 hres
    intro a g h2 hJ
    unfold LgI at hJ
    have f2 := hJ.1
    have hg2 := hJ.2.1
    have G2 := hJ.2.2.1
    have hr2 := hJ.2.2.2.1
    have hb2 := hJ.2.2.2.2
    clear hJ
    simp only at hr2
    have hp2 := G2.lt
    with_reducible refine G2.cell (fun v L e w hL hl2 => ?_)
    simp only [cI] at e
    have hk2 := G2.hi
    simp (maxSteps := 1000000) -implicitDefEqProofs only [push_cast, seval, e, rd_of e, rd1_of e, hp2]
    with_reducible refine CC.mono (takeG n0 p s _ _ 42 42 rfl h2 hs G2) (fun y h3 hy => ?_)
    with_reducible refine Or.elim hy (fun hy => ?_) (fun hy => ?_)
    · have c1 := hy.1
      have ey := hy.2.1
      have f3 := hy.2.2.1
      have G3 := hy.2.2.2
      have := isAt_lt c1
      clear hy
      subst ey
      simp (maxSteps := 1000000) -implicitDefEqProofs only [push_cast, seval]
      with_reducible refine CC.mono (putG1 n0 p s _ _ 7 a.2.2.2 7 rfl h3 G3 (by omega)) (fun y h4 hy => ?_)
      have ey := hy.1
      have f4 := hy.2.1
      have G4 := hy.2.2
      clear hy
      subst ey
      simp (maxSteps := 1000000) -implicitDefEqProofs only [push_cast, seval]
      refine ⟨(a.1 - 1, a.2.1 + 1, a.2.2.1 ++ [⟨7, ⟨#[]⟩, [a.2.2.2]⟩], a.2.2.1.length), by kernel_rfl, ⟨f2.trans (f3.trans f4), by show s.size - (a.2.1 + 1) < a.1 - 1; omega, G4, ?_, by show (a.2.2.1 ++ [_]).length + 2 * (s.size - (a.2.1 + 1)) ≤ m; rw [List.length_append]; simp only [List.length_cons, List.length_nil]; omega⟩, by show a.1 - 1 < a.1; omega⟩
      rw [← hr2]
      obtain ⟨g0, hg0⟩ : ∃ g0, a.1 = g0 + 1 := ⟨a.1 - 1, by omega⟩
      rw [hg0]
      simp only [pStars, c1, if_true, Bool.false_eq_true, if_false, Nat.add_sub_cancel]
    · have c1 := hy.1
      have ey := hy.2.1
      have eh := hy.2.2.symm
      clear hy
      subst ey eh
      simp (maxSteps := 1000000) -implicitDefEqProofs only [push_cast, seval]
      with_reducible refine CC.mono (takeG n0 p s _ _ 43 43 rfl h2 hs G2) (fun y h3 hy => ?_)
      with_reducible refine Or.elim hy (fun hy => ?_) (fun hy => ?_)
      · have c2 := hy.1
        have ey := hy.2.1
        have f3 := hy.2.2.1
        have G3 := hy.2.2.2
        have := isAt_lt c2
        clear hy
        subst ey
        simp (maxSteps := 1000000) -implicitDefEqProofs only [push_cast, seval]
        with_reducible refine CC.mono (putG1 n0 p s _ _ 8 a.2.2.2 8 rfl h3 G3 (by omega)) (fun y h4 hy => ?_)
        have ey := hy.1
        have f4 := hy.2.1
        have G4 := hy.2.2
        clear hy
        subst ey
        simp (maxSteps := 1000000) -implicitDefEqProofs only [push_cast, seval]
        refine ⟨(a.1 - 1, a.2.1 + 1, a.2.2.1 ++ [⟨8, ⟨#[]⟩, [a.2.2.2]⟩], a.2.2.1.length), by kernel_rfl, ⟨f2.trans (f3.trans f4), by show s.size - (a.2.1 + 1) < a.1 - 1; omega, G4, ?_, by show (a.2.2.1 ++ [_]).length + 2 * (s.size - (a.2.1 + 1)) ≤ m; rw [List.length_append]; simp only [List.length_cons, List.length_nil]; omega⟩, by show a.1 - 1 < a.1; omega⟩
        rw [← hr2]
        obtain ⟨g0, hg0⟩ : ∃ g0, a.1 = g0 + 1 := ⟨a.1 - 1, by omega⟩
        rw [hg0]
        simp only [pStars, c1, c2, if_true, Bool.false_eq_true, if_false, Nat.add_sub_cancel]
      · have c2 := hy.1
        have ey := hy.2.1
        have eh := hy.2.2.symm
        clear hy
        subst ey eh
        simp (maxSteps := 1000000) -implicitDefEqProofs only [push_cast, seval]
        with_reducible refine CC.mono (takeG n0 p s _ _ 63 63 rfl h2 hs G2) (fun y h3 hy => ?_)
        with_reducible refine Or.elim hy (fun hy => ?_) (fun hy => ?_)
        · have c3 := hy.1
          have ey := hy.2.1
          have f3 := hy.2.2.1
          have G3 := hy.2.2.2
          have := isAt_lt c3
          clear hy
          subst ey
          simp (maxSteps := 1000000) -implicitDefEqProofs only [push_cast, seval]
          with_reducible refine CC.mono (putG1 n0 p s _ _ 9 a.2.2.2 9 rfl h3 G3 (by omega)) (fun y h4 hy => ?_)
          have ey := hy.1
          have f4 := hy.2.1
          have G4 := hy.2.2
          clear hy
          subst ey
          simp (maxSteps := 1000000) -implicitDefEqProofs only [push_cast, seval]
          refine ⟨(a.1 - 1, a.2.1 + 1, a.2.2.1 ++ [⟨9, ⟨#[]⟩, [a.2.2.2]⟩], a.2.2.1.length), by kernel_rfl, ⟨f2.trans (f3.trans f4), by show s.size - (a.2.1 + 1) < a.1 - 1; omega, G4, ?_, by show (a.2.2.1 ++ [_]).length + 2 * (s.size - (a.2.1 + 1)) ≤ m; rw [List.length_append]; simp only [List.length_cons, List.length_nil]; omega⟩, by show a.1 - 1 < a.1; omega⟩
          rw [← hr2]
          obtain ⟨g0, hg0⟩ : ∃ g0, a.1 = g0 + 1 := ⟨a.1 - 1, by omega⟩
          rw [hg0]
          simp only [pStars, c1, c2, c3, if_true, Bool.false_eq_true, if_false, Nat.add_sub_cancel]
        · have c3 := hy.1
          have ey := hy.2.1
          have eh := hy.2.2.symm
          clear hy
          subst ey eh
          simp (maxSteps := 1000000) -implicitDefEqProofs only [push_cast, seval]
          obtain ⟨g0, hg0⟩ : ∃ g0, a.1 = g0 + 1 := ⟨a.1 - 1, by omega⟩
          rw [hg0] at hr2
          simp only [pStars, c1, c2, c3, Bool.false_eq_true, if_false] at hr2
          rw [← hr2]
          exact Ro.some f2 G2
  · clear hy
    subst ey er
    simp (maxSteps := 1000000) -implicitDefEqProofs only [push_cast, seval]
    refine WC.loopA (by kernel_rfl) [3] [2, 6, 7, 8, 9, 10, 11, 12, 13, 14, 15, 16, 17, 18, 19, 20, 21, 22, 23, 24, 25, 26, 27, 28, 29, 30, 31, 32] (fun _ : Nat => [.int .i64 (r1 : Nat)]) (fun _ h' => h' = h1) (fun a => a) 0 (by kernel_rfl) rfl ?_
    intro a g h2 hJ
    subst hJ
    have hp1 := B1.lt
    with_reducible refine B1.cell (fun k v cs j a e g d c f => ?_)
    simp only [cI] at e
    simp (maxSteps := 1000000) -implicitDefEqProofs only [push_cast, seval, e, rd_of e, rd1_of e, hp1]
    exact Ro.none f1 B1
end Go.Proofs.Ytciajhpeikemoaa
namespace Go.Proofs.Ytciajhpeikemoaa
open Go Go.Sim Go.Proofs
set_option linter.unusedSimpArgs false
set_option linter.unusedVariables false
set_option maxRecDepth 100000
set_option maxHeartbeats 1000000
theorem isD (p : Nat) (s : ByteArray) (k : Nat) (bad : Bool) (v : Value) (c : Nat) (ci : Int) (hci : (c : Int) = ci) (h : AH) (e : h.ob p = .cells [.string (s.extract k s.size), v, .bool bad] .solo p) (hp : p < h.n) (hk : k ≤ s.size) (hs : s.size ≤ 24) :
    CD Try.prog 151 [.pointer (some ⟨p, 0, none⟩), .int .u8 ci] h (.bool (isAt s k c)) h := by
  subst hci
  exact is_c p s k bad v c h e hp hk hs
def pK (res : PRes) (f : Nat → List Pc → Nat → PRes) : PRes := match res with
  | none => none
  | some (k, o, r) => f k o r
theorem pRow_eq (th : Nat → List Pc → PRes) (s : ByteArray) (k : Nat) (out : List Pc) : pRow th s k out = if pStop s k then some (k, out ++ [⟨12, ⟨#[]⟩, []⟩], out.length) else pK (th k out) (pCats th s (s.size + 1)) := rfl
theorem pCats_eq (th : Nat → List Pc → PRes) (s : ByteArray) (g k : Nat) (out : List Pc) (r : Nat) : pCats th s (g + 1) k out r = if pStop s k then some (k, out, r) else pK (th k out) (fun k' o' r' => pCats th s g k' (o' ++ [⟨5, ⟨#[]⟩, [r, r']⟩]) o'.length) := rfl
theorem pAlt_eq (s : ByteArray) (f k : Nat) (out : List Pc) : pAlt s (f + 1) k out = pK (pRow (pThing (pAlt s f) s) s k out) (pBars (pRow (pThing (pAlt s f) s) s) s (s.size + 1)) := rfl
theorem pBars_eq (row : Nat → List Pc → PRes) (s : ByteArray) (g k : Nat) (out : List Pc) (r : Nat) : pBars row s (g + 1) k out r = if isAt s k 124 then pK (row (k + 1) out) (fun k' o' r' => pBars row s g k' (o' ++ [⟨6, ⟨#[]⟩, [r, r']⟩]) o'.length) else some (k, out, r) := rfl
def LqI (s : ByteArray) (k0 n0 p : Nat) (h : AH) (m mg : Nat) (cont : Nat → Nat → List Pc → Nat → PRes) (res : PRes) (a : Nat × Nat × List Pc × Nat) (h' : AH) : Prop :=
  Fr n0 h h' ∧ ((k0 ≤ a.2.1 ∧ s.size - a.2.1 < a.1 ∧ Rg (cI s) s n0 p h' a.2.1 a.2.2.1 ∧ cont a.1 a.2.1 a.2.2.1 a.2.2.2 = res ∧ a.2.2.1.length + 2 * (s.size - a.2.1) ≤ mg) ∨ (a.1 = 0 ∧ res = none ∧ Rb (cI s) s n0 p h' m))
theorem thing_o (s : ByteArray) (hs : s.size ≤ 24) (lo : Nat) (alt : Nat → List Pc → PRes) (ha : OweI 49 s (lo + 1) alt) (hg : GoodR 1 s alt) : OweI 152 s lo (pThing alt s) :=
  fun n0 p k out h hlo G hj => thing_i n0 p s k out h hs alt (fun n0 p k' out h hk => ha n0 p k' out h (by omega)) hg G hj
theorem row_o (s : ByteArray) (hs : s.size ≤ 24) (lo : Nat) (th : Nat → List Pc → PRes) (ht : OweI 152 s lo th) (hg : GoodR 3 s th) : OweI 103 s lo (pRow th s) := by
  intro n0 p k out h hlo G hj
  have hA := ht n0 p k out h hlo G hj
  have hb0 := fun k' o' r => hg k out k' o' r G.hi
  have hp := G.lt
  have hn := G.le
  have hk := G.hi
  have hz : k ≤ s.size := G.hi
  generalize hm : out.length + 2 * (s.size - k) = m at *
  rw [pRow_eq]
  with_reducible refine G.cell (fun v L e w hL hl => ?_)
  simp only [cI] at e
  have t := Txt.of s k hk
  have hi := fun c ci hci => isD p s k false v c ci hci h e hp hk hs
  have hput := putG n0 p s k out (.slice none 0 0) 12 12 rfl ⟨#[]⟩ [] h G (by omega) (RdV.nil _ _ _ _) (by simp)
  have ts := t.size
  have tE := t.emp
  generalize s.extract k s.size = T at *
  have i1 := hi 124 124 rfl
  have i2 := hi 41 41 rfl
  by_cases hst : pStop s k = true
  · rw [if_pos hst]
    simp only [pStop, Bool.or_eq_true, decide_eq_true_eq] at hst
    refine CC.ofN Try.func103 Try.ntmps103 Try.results103 rfl (by decide) (by kernel_rfl) ?_
    simp (maxSteps := 1000000) -implicitDefEqProofs only [push_cast, seval, e, rd_of e, rd1_of e, hp, tE]
    with_reducible refine bcase_d (fun hb => ?_) (fun hb => ?_)
    · simp (maxSteps := 1000000) -implicitDefEqProofs only [push_cast, seval, e, rd_of e, rd1_of e, hp, tE]
      with_reducible refine CC.mono hput (fun y h2 hy => ?_)
      have ey := hy.1
      have f2 := hy.2.1
      have G2 := hy.2.2
      clear hy
      subst ey
      simp (maxSteps := 1000000) -implicitDefEqProofs only [push_cast, seval]
      exact Ro.some f2 G2
    · simp (maxSteps := 1000000) -implicitDefEqProofs only [push_cast, seval, e, rd_of e, rd1_of e, hp, tE]
      with_reducible refine CD.to i1 ?_
      cases c1 : isAt s k 124 with
      | true =>
        simp (maxSteps := 1000000) -implicitDefEqProofs only [push_cast, seval, e, rd_of e, rd1_of e, hp, tE]
        with_reducible refine CC.mono hput (fun y h2 hy => ?_)
        have ey := hy.1
        have f2 := hy.2.1
        have G2 := hy.2.2
        clear hy
        subst ey
        simp (maxSteps := 1000000) -implicitDefEqProofs only [push_cast, seval]
        exact Ro.some f2 G2
      | false =>
        have c2 : isAt s k 41 = true := by
          rcases hst with (h1 | h1) | h1
          · omega
          · rw [c1] at h1; cases h1
          · exact h1
        rw [c2] at i2
        simp (maxSteps := 1000000) -implicitDefEqProofs only [push_cast, seval, e, rd_of e, rd1_of e, hp, tE]
        with_reducible refine CD.to i2 ?_
        simp (maxSteps := 1000000) -implicitDefEqProofs only [push_cast, seval, e, rd_of e, rd1_of e, hp, tE]
        with_reducible refine CC.mono hput (fun y h2 hy => ?_)
        have ey := hy.1
        have f2 := hy.2.1
        have G2 := hy.2.2
        clear hy
        subst ey
        simp (maxSteps := 1000000) -implicitDefEqProofs only [push_cast, seval]
        exact Ro.some f2 G2
  · rw [if_neg hst]
    simp only [pStop, Bool.or_eq_true, decide_eq_true_eq, not_or, Bool.not_eq_true] at hst
    have n1 := hst.1.1
    have c1 := hst.1.2
    have c2 := hst.2
    rw [c1] at i1
    rw [c2] at i2
    generalize th k out = res0 at *
    refine CC.ofN Try.func103 Try.ntmps103 Try.results103 rfl (by decide) (by kernel_rfl) ?_
    simp (maxSteps := 1000000) -implicitDefEqProofs only [push_cast, seval, e, rd_of e, rd1_of e, hp, tE]
    with_reducible refine bcase_d (fun hb => ?_) (fun hb => ?_)
    · exact absurd hb n1
    simp (maxSteps := 1000000) -implicitDefEqProofs only [push_cast, seval, e, rd_of e, rd1_of e, hp, tE]
    with_reducible refine CD.to i1 ?_
    simp (maxSteps := 1000000) -implicitDefEqProofs only [push_cast, seval, e, rd_of e, rd1_of e, hp, tE]
    with_reducible refine CD.to i2 ?_
    simp (maxSteps := 1000000) -implicitDefEqProofs only [push_cast, seval, e, rd_of e, rd1_of e, hp, tE]
    with_reducible refine CC.mono hA (fun y h1 hy => ?_)
    have key : ∃ (a : Nat × Nat × List Pc × Nat) (res : PRes), LqI s k n0 p h m (m - 1) (pCats th s) res a h1 ∧ y = .int .i64 (a.2.2.2 : Nat) ∧ res = pK res0 (pCats th s (s.size + 1)) := by
      refine hy.cases (fun k1 o1 r1 er ey f1 G1 => ?_) (fun er r1 ey f1 B1 => ?_)
      · subst er
        have hb1 := (hb0 _ _ _ rfl).pot
        exact ⟨(s.size + 1, k1, o1, r1), _, ⟨f1, .inl ⟨(hb0 _ _ _ rfl).le, by show s.size - k1 < s.size + 1; omega, G1, rfl, by show o1.length + 2 * (s.size - k1) ≤ m - 1; omega⟩⟩, ey, rfl⟩
      · subst er
        exact ⟨(0, 0, [], r1), none, ⟨f1, .inr ⟨rfl, rfl, B1⟩⟩, ey, rfl⟩
    clear hy hA
    with_reducible refine Exists.elim key (fun a0 key => ?_)
    with_reducible refine Exists.elim key (fun res key => ?_)
    have hJ0 := key.1
    have ey := key.2.1
    have er := key.2.2
    clear key
    rw [← er]
    subst ey
    clear er hb0
    simp (maxSteps := 1000000) -implicitDefEqProofs only [push_cast, seval]
    refine WC.loopA (by kernel_rfl) [3] [4, 22, 23, 24, 25, 26, 27, 28, 29, 30, 31, 32, 33, 34, 35, 36, 37, 38, 39, 40, 41, 42, 43, 44, 45, 46, 47, 48, 49, 50] (fun a : Nat × Nat × List Pc × Nat => [.int .i64 (a.2.2.2 : Nat)]) (LqI s k n0 p h m (m - 1) (pCats th s) res) (fun a => a.1) a0 (by kernel_rfl) hJ0 ?_
    clear hJ0 i1 i2 hput e w hi
    intro a g h2 hJ
    unfold LqI at hJ
    have f2 := hJ.1
    with_reducible refine Or.elim hJ.2 (fun hl => ?_) (fun hl => ?_)
    · have hk0 := hl.1
      have hg2 := hl.2.1
      have G2 := hl.2.2.1
      have hr2 := hl.2.2.2.1
      have hb2 := hl.2.2.2.2
      clear hl hJ
      have hgs : ∃ g0, a.1 = g0 + 1 := ⟨a.1 - 1, by omega⟩
      with_reducible refine Exists.elim hgs (fun g0 hg0 => ?_)
      rw [hg0, pCats_eq] at hr2
      have ex : pStop s a.2.1 = true → Ro (cI s) s n0 p h m res (.int .i64 (a.2.2.2 : Nat)) h2 := fun hs => by
        rw [if_pos hs] at hr2
        rw [← hr2]
        exact Ro.some f2 G2
      have hp2 := G2.lt
      have hk2 := G2.hi
      with_reducible refine G2.cell (fun v L e w hL hl2 => ?_)
      simp only [cI] at e
      have t := Txt.of s a.2.1 hk2
      have j1 := isD p s a.2.1 false v 124 124 rfl h2 e hp2 hk2 hs
      have j2 := isD p s a.2.1 false v 41 41 rfl h2 e hp2 hk2 hs
      have tE := t.emp
      clear t
      generalize s.extract a.2.1 s.size = T at *
      simp (maxSteps := 1000000) -implicitDefEqProofs only [push_cast, seval, e, rd_of e, rd1_of e, hp2, tE]
      with_reducible refine bcase_d (fun hb => ?_) (fun hb => ?_)
      · simp (maxSteps := 1000000) -implicitDefEqProofs only [push_cast, seval, e, rd_of e, rd1_of e, hp2, tE]
        exact ex (by simp [pStop, hb])
      simp (maxSteps := 1000000) -implicitDefEqProofs only [push_cast, seval, e, rd_of e, rd1_of e, hp2, tE]
      with_reducible refine CD.to j1 ?_
      cases c1 : isAt s a.2.1 124 with
      | true =>
        simp (maxSteps := 1000000) -implicitDefEqProofs only [push_cast, seval, e, rd_of e, rd1_of e, hp2, tE]
        exact ex (by simp [pStop, c1])
      | false =>
      simp (maxSteps := 1000000) -implicitDefEqProofs only [push_cast, seval, e, rd_of e, rd1_of e, hp2, tE]
      with_reducible refine CD.to j2 ?_
      cases c2 : isAt s a.2.1 41 with
      | true =>
        simp (maxSteps := 1000000) -implicitDefEqProofs only [push_cast, seval, e, rd_of e, rd1_of e, hp2, tE]
        exact ex (by simp [pStop, c2])
      | false =>
      simp (maxSteps := 1000000) -implicitDefEqProofs only [push_cast, seval, e, rd_of e, rd1_of e, hp2, tE]
      clear ex
      have hst : ¬ pStop s a.2.1 = true := by simp [pStop, c1, c2]; omega
      rw [if_neg hst] at hr2
      have hA := ht n0 p a.2.1 a.2.2.1 h2 (by omega) G2 (by omega)
      have hb0 := fun k' o' r => hg a.2.1 a.2.2.1 k' o' r G2.hi
      generalize th a.2.1 a.2.2.1 = res0 at *
      with_reducible refine CC.mono hA (fun y h3 hy => ?_)
      clear hA j1 j2
      with_reducible refine hy.cases (fun k3 o3 r3 er ey f3 G3 => ?_) (fun er r3 ey f3 B3 => ?_)
      · clear hy
        subst er ey
        have GG := hb0 _ _ _ rfl
        have gp := GG.pot
        have gl := GG.lt (Nat.le_refl _)
        have gh := GG.hi
        clear hb0 GG
        simp (maxSteps := 1000000) -implicitDefEqProofs only [push_cast, seval]
        with_reducible refine CC.mono (putG2 n0 p s _ _ 5 a.2.2.2 r3 5 rfl h3 G3 (by omega)) (fun y h4 hy => ?_)
        have ey := hy.1
        have f4 := hy.2.1
        have G4 := hy.2.2
        clear hy
        subst ey
        simp (maxSteps := 1000000) -implicitDefEqProofs only [push_cast, seval]
        refine ⟨(g0, k3, o3 ++ ([⟨5, ⟨#[]⟩, [a.2.2.2, r3]⟩] : List Pc), o3.length), by kernel_rfl, ⟨f2.trans (f3.trans f4), .inl ⟨by show k ≤ k3; omega, by show s.size - k3 < g0; omega, G4, hr2, by show (o3 ++ [_]).length + 2 * (s.size - k3) ≤ m - 1; rw [List.length_append]; simp only [List.length_cons, List.length_nil]; omega⟩⟩, by show g0 < a.1; omega⟩
      · clear hy
        subst er ey
        simp (maxSteps := 1000000) -implicitDefEqProofs only [push_cast, seval]
        with_reducible refine CC.mono (putB2 n0 p _ s 5 a.2.2.2 r3 5 rfl h3 B3 (by omega)) (fun y h4 hy => ?_)
        with_reducible refine Exists.elim hy.1 (fun r4 ey => ?_)
        have f4 := hy.2.1
        have B4 := hy.2.2
        clear hy
        subst ey
        simp (maxSteps := 1000000) -implicitDefEqProofs only [push_cast, seval]
        refine ⟨(0, 0, [], r4), by kernel_rfl, ⟨f2.trans (f3.trans f4), .inr ⟨rfl, hr2.symm, B4.mono (by omega)⟩⟩, by show 0 < a.1; omega⟩
    · have hB := hl.2.2
      have hr := hl.2.1
      clear hl hJ
      have hp2 := hB.lt
      with_reducible refine hB.cell (fun k v cs j a e g d c f => ?_)
      simp only [cI] at e
      simp (maxSteps := 1000000) -implicitDefEqProofs only [push_cast, seval, e, rd_of e, rd1_of e, hp2]
      rw [hr]
      exact Ro.none f2 hB
end Go.Proofs.Ytciajhpeikemoaa
namespace Go.Proofs.Ytciajhpeikemoaa
open Go Go.Sim Go.Proofs
set_option linter.unusedSimpArgs false
set_option linter.unusedVariables false
set_option maxRecDepth 100000
set_option maxHeartbeats 1000000
theorem alt_o (s : ByteArray) (hs : s.size ≤ 24) (lo : Nat) (rw_ : Nat → List Pc → PRes) (ht : OweI 103 s lo rw_) (hg : GoodR 1 s rw_) : OweI 49 s lo (fun k out => pK (rw_ k out) (pBars rw_ s (s.size + 1))) := by
  intro n0 p k out h hlo G hj
  have hA := ht n0 p k out h hlo G hj
  have hb0 := fun k' o' r => hg k out k' o' r G.hi
  have hp := G.lt
  have hn := G.le
  have hk := G.hi
  have hz : k ≤ s.size := G.hi
  generalize hm : out.length + 2 * (s.size - k) = m at *
  simp only
  generalize rw_ k out = res0 at *
  refine CC.ofN Try.func49 Try.ntmps49 Try.results49 rfl (by decide) (by kernel_rfl) ?_
  simp (maxSteps := 1000000) -implicitDefEqProofs only [push_cast, seval]
  with_reducible refine CC.mono hA (fun y h1 hy => ?_)
  have key : ∃ (a : Nat × Nat × List Pc × Nat) (res : PRes), LqI s k n0 p h m (m + 1) (pBars rw_ s) res a h1 ∧ y = .int .i64 (a.2.2.2 : Nat) ∧ res = pK res0 (pBars rw_ s (s.size + 1)) := by
    refine hy.cases (fun k1 o1 r1 er ey f1 G1 => ?_) (fun er r1 ey f1 B1 => ?_)
    · subst er
      have hb1 := (hb0 _ _ _ rfl).pot
      exact ⟨(s.size + 1, k1, o1, r1), _, ⟨f1, .inl ⟨(hb0 _ _ _ rfl).le, by show s.size - k1 < s.size + 1; omega, G1, rfl, by show o1.length + 2 * (s.size - k1) ≤ m + 1; omega⟩⟩, ey, rfl⟩
    · subst er
      exact ⟨(0, 0, [], r1), none, ⟨f1, .inr ⟨rfl, rfl, B1⟩⟩, ey, rfl⟩
  clear hy hA
  with_reducible refine Exists.elim key (fun a0 key => ?_)
  with_reducible refine Exists.elim key (fun res key => ?_)
  have hJ0 := key.1
  have ey := key.2.1
  have er := key.2.2
  clear key
  rw [← er]
  subst ey
  clear er hb0
  simp (maxSteps := 1000000) -implicitDefEqProofs only [push_cast, seval]
  refine WC.loopA (by kernel_rfl) [3] [4, 7, 8, 9, 10, 11, 12, 13, 14, 15, 16, 17, 18, 19, 20, 21, 22] (fun a : Nat × Nat × List Pc × Nat => [.int .i64 (a.2.2.2 : Nat)]) (LqI s k n0 p h m (m + 1) (pBars rw_ s) res) (fun a => a.1) a0 (by kernel_rfl) hJ0 ?_
  clear hJ0
  intro a g h2 hJ
  unfold LqI at hJ
  have f2 := hJ.1
  with_reducible refine Or.elim hJ.2 (fun hl => ?_) (fun hl => ?_)
  · have hk0 := hl.1
    have hg2 := hl.2.1
    have G2 := hl.2.2.1
    have hr2 := hl.2.2.2.1
    have hb2 := hl.2.2.2.2
    clear hl hJ
    have hgs : ∃ g0, a.1 = g0 + 1 := ⟨a.1 - 1, by omega⟩
    with_reducible refine Exists.elim hgs (fun g0 hg0 => ?_)
    rw [hg0, pBars_eq] at hr2
    have hp2 := G2.lt
    have hk2 := G2.hi
    with_reducible refine G2.cell (fun v L e w hL hl2 => ?_)
    simp only [cI] at e
    simp (maxSteps := 1000000) -implicitDefEqProofs only [push_cast, seval, e, rd_of e, rd1_of e, hp2]
    with_reducible refine CC.mono (takeG n0 p s _ _ 124 124 rfl h2 hs G2) (fun y h3 hy => ?_)
    with_reducible refine Or.elim hy (fun hy => ?_) (fun hy => ?_)
    · have c1 := hy.1
      have ey := hy.2.1
      have f3 := hy.2.2.1
      have G3 := hy.2.2.2
      have hlt := isAt_lt c1
      clear hy
      subst ey
      rw [if_pos c1] at hr2
      simp (maxSteps := 1000000) -implicitDefEqProofs only [push_cast, seval]
      have hA := ht n0 p (a.2.1 + 1) a.2.2.1 h3 (by omega) G3 (by omega)
      have hb0 := fun k' o' r => hg (a.2.1 + 1) a.2.2.1 k' o' r G3.hi
      generalize rw_ (a.2.1 + 1) a.2.2.1 = res0 at *
      with_reducible refine CC.mono hA (fun y h3b hy => ?_)
      clear hA
      with_reducible refine hy.cases (fun k3 o3 r3 er ey f3b G3b => ?_) (fun er r3 ey f3b B3 => ?_)
      · clear hy
        subst er ey
        have GG := hb0 _ _ _ rfl
        have gp := GG.pot
        have gl := GG.le
        have gh := GG.hi
        clear hb0 GG
        simp (maxSteps := 1000000) -implicitDefEqProofs only [push_cast, seval]
        with_reducible refine CC.mono (putG2 n0 p s _ _ 6 a.2.2.2 r3 6 rfl h3b G3b (by omega)) (fun y h4 hy => ?_)
        have ey := hy.1
        have f4 := hy.2.1
        have G4 := hy.2.2
        clear hy
        subst ey
        simp (maxSteps := 1000000) -implicitDefEqProofs only [push_cast, seval]
        refine ⟨(g0, k3, o3 ++ ([⟨6, ⟨#[]⟩, [a.2.2.2, r3]⟩] : List Pc), o3.length), by kernel_rfl, ⟨f2.trans (f3.trans (f3b.trans f4)), .inl ⟨by show k ≤ k3; omega, by show s.size - k3 < g0; omega, G4, hr2, by show (o3 ++ [_]).length + 2 * (s.size - k3) ≤ m + 1; rw [List.length_append]; simp only [List.length_cons, List.length_nil]; omega⟩⟩, by show g0 < a.1; omega⟩
      · clear hy
        subst er ey
        simp (maxSteps := 1000000) -implicitDefEqProofs only [push_cast, seval]
        with_reducible refine CC.mono (putB2 n0 p _ s 6 a.2.2.2 r3 6 rfl h3b B3 (by omega)) (fun y h4 hy => ?_)
        with_reducible refine Exists.elim hy.1 (fun r4 ey => ?_)
        have f4 := hy.2.1
        have B4 := hy.2.2
        clear hy
        subst ey
        simp (maxSteps := 1000000) -implicitDefEqProofs only [push_cast, seval]
        refine ⟨(0, 0, [], r4), by kernel_rfl, ⟨f2.trans (f3.trans (f3b.trans f4)), .inr ⟨rfl, hr2.symm, B4.mono (by omega)⟩⟩, by show 0 < a.1; omega⟩
    · have c1 := hy.1
      have ey := hy.2.1
      have eh := hy.2.2.symm
      clear hy
      subst ey eh
      simp (maxSteps := 1000000) -implicitDefEqProofs only [push_cast, seval]
      rw [if_neg (by rw [c1]; decide)] at hr2
      rw [← hr2]
      exact Ro.some f2 G2
  · have hB := hl.2.2
    have hr := hl.2.1
    clear hl hJ
    have hp2 := hB.lt
    with_reducible refine hB.cell (fun k v cs j a e g d c f => ?_)
    simp only [cI] at e
    simp (maxSteps := 1000000) -implicitDefEqProofs only [push_cast, seval, e, rd_of e, rd1_of e, hp2]
    rw [hr]
    exact Ro.none f2 hB
theorem alternatives_o (s : ByteArray) (hs : s.size ≤ 24) : ∀ (f lo : Nat), s.size < lo + f → OweI 49 s lo (pAlt s f)
  | 0, lo, hl => fun n0 p k out h hk G => by have := G.hi; omega
  | f + 1, lo, hl => by
    have ha := alternatives_o s hs f (lo + 1) (by omega)
    have gt := pThing_gd (pAlt_gd s f)
    exact alt_o s hs lo _ (row_o s hs lo _ (thing_o s hs lo _ ha (pAlt_gd s f)) gt) (pRow_gd gt)
end Go.Proofs.Ytciajhpeikemoaa
namespace Go.Proofs.Ytciajhpeikemoaa
open Go Go.Sim Go.Proofs
set_option linter.unusedSimpArgs false
set_option linter.unusedVariables false
set_option maxRecDepth 100000
set_option maxHeartbeats 1000000
theorem kidsAhead_c (v : Value) (l : List Nat) (at_ : Nat) (h : AH) (r : RdV h v 1 encNa l) (hl : l.length ≤ 1000) (hall : ∀ k ∈ l, k < at_) (ha : at_ ≤ 1000) :
    CD Try.prog 57 [v, .int .i64 (at_ : Nat)] h (.bool true) h := by
  refine CD.withBig (fun big => ?_)
  refine CD.quiet ?_ (low_bool _ _)
  obtain ⟨A, c, rfl, hR⟩ := r.rde (fun _ => rfl)
  refine CC.ofN Try.func57 Try.ntmps57 Try.results57 rfl (by decide) (by kernel_rfl) ?_
  simp (maxSteps := 1000000) -implicitDefEqProofs only [push_cast, seval]
  refine WC.loopA (by kernel_rfl) [9] [4, 6, 10, 11, 12, 13, 14, 15, 16, 17, 18] (fun i : Nat => [.int .i64 i]) (fun i h' => i ≤ l.length ∧ Pre h h') (fun i => l.length - i) 0 (by kernel_rfl) ⟨Nat.zero_le _, Pre.refl _⟩ ?_
  intro i g h1 hJ
  have hi := hJ.1
  have p1 := hJ.2
  clear hJ
  simp (maxSteps := 1000000) -implicitDefEqProofs only [push_cast, seval]
  with_reducible refine bcase_d (fun hb => ?_) (fun hb => ?_)
  · have hi' : i < l.length := by omega
    have hk := hall l[i] (List.getElem_mem hi')
    with_reducible refine hR.use big p1 hi' (fun id off eA hlt hr => ?_)
    subst eA
    simp only [encNa] at hr
    have r0 := rd_1 hr
    simp (maxSteps := 1000000) -implicitDefEqProofs only [push_cast, seval, hr, r0, hlt]
    refine And.intro (by omega) (And.intro (by omega) ?_)
    rw [show IntKind.i64.wrap ((at_ : Int) - 1) = (at_ : Int) - 1 by rw [w64 (by omega) (by omega)]]
    with_reducible refine CD.to (within_c _ _ _ _) ?_
    have hin : inB (l[i] : Nat) 0 ((at_ : Int) - 1) = true := by simp only [inB, Bool.and_eq_true, decide_eq_true_eq]; omega
    rw [hin]
    simp (maxSteps := 1000000) -implicitDefEqProofs only [push_cast, seval]
    rw [wrapSucc (by omega)]
    exact ⟨i + 1, by kernel_rfl, ⟨by omega, p1⟩, by omega⟩
  · simp (maxSteps := 1000000) -implicitDefEqProofs only [push_cast, seval]
    exact p1.keep
theorem pieceOk_c (x : Pc) (kv : Value) (at_ : Nat) (h : AH) (r : RdV h kv 1 encNa x.kids) (ok : OkPc x at_) (ha : at_ ≤ 1000) :
    CD Try.prog 50 [.agg #[.int .i64 (x.op : Nat), .string x.text, kv], .int .i64 (at_ : Nat)] h (.bool true) h := by
  refine CD.quiet ?_ (low_bool _ _)
  have y1 := r.one
  have y2 := rdv_cells r
  have hop := ok.op
  have hkl := ok.kids
  have hte := ok.text
  have hK : kidsN x.op ≤ 2 := by unfold kidsN; split <;> (try split) <;> omega
  obtain ⟨A, c, rfl, hR⟩ := r.rde (fun _ => rfl)
  have hk := fun h' (p : Pre h h') => kidsAhead_c _ x.kids at_ h' (r.pre p) (by omega) ok.ahead ha
  have hin : inB (x.op : Nat) 1 12 = true := by simp only [inB, Bool.and_eq_true, decide_eq_true_eq]; omega
  obtain ⟨op, text, kids⟩ := x
  simp only at *
  have tE : (text = ⟨#[]⟩) = (text.size = 0) := propext ⟨fun e => by rw [e]; rfl, fun e => ByteArray.ext (Array.eq_empty_of_size_eq_zero e)⟩
  have hcase : op = 1 ∨ op = 2 ∨ op = 3 ∨ op = 4 ∨ op = 5 ∨ op = 6 ∨ op = 7 ∨ op = 8 ∨ op = 9 ∨ op = 10 ∨ op = 11 ∨ op = 12 := by omega
  generalize hLk : kids.length = K at *
  generalize hts : text.size = Z at *
  have hw : (op = 3 ∨ op = 4) → inB (Z : Nat) 1 24 = true := fun e => by
    unfold textOk at hte
    rw [hts, if_neg (by omega), if_pos e] at hte
    simp only [inB, Bool.and_eq_true, decide_eq_true_eq]; omega
  rcases hcase with rfl | rfl | rfl | rfl | rfl | rfl | rfl | rfl | rfl | rfl | rfl | rfl
  all_goals
    simp [textOk, kidsN, hts] at hte hkl hw
    try subst hkl
    try subst hte
    refine CC.ofN Try.func50 Try.ntmps50 Try.results50 rfl (by decide) (by kernel_rfl) ?_
    simp (maxSteps := 1000000) -implicitDefEqProofs only [push_cast, seval, y1, y2, tE, hLk, hts]
    repeat' (first | with_reducible (first | exact Keep.refl _ _ | assumption | exact byte_lt _ _ | apply Keep.alloc | (refine Keep.set ?_ ?_; rotate_left; · omega) | apply Pre.alloc | apply Pre.set | exact Pre.refl _ | exact le_alloc _ | (refine Pre.keep ?_; assumption) | (refine Pre.n ?_; assumption)) | ((with_reducible (first | refine CD.to (within_c _ _ _ _) ?_ | refine CQ.pure (fun _ => within_c _ _ _ _) ?_ | refine CD.to (hk _ ?_) ?_ | refine CQ.pure (fun _ => hk _ ?_) ?_ | refine bcase_d (fun hb => ?_) (fun hb => ?_) | refine bcase_mk (fun hb => ?_) (fun hb => ?_))) <;> try simp (maxSteps := 1000000) -implicitDefEqProofs only [push_cast, seval, y1, y2, tE, hLk, hts, hin, hw]) | with_reducible refine And.intro ?_ ?_ | omega | (simp only [alloc_n, set_n, kill_n]; omega) | (exfalso; omega))
    all_goals exact absurd hb (by decide)
theorem PatternOk_c (v : Value) (L : List (Pc × Value)) (h : AH) (w : RdPat h v L) (ok : Okp (L.map Prod.fst)) (h1 : 1 ≤ L.length) (h2 : L.length ≤ 60) :
    CD Try.prog 18 [.agg #[v]] h (.bool true) h := by
  refine CD.withBig (fun big => ?_)
  refine CD.quiet ?_ (low_bool _ _)
  have r := w.r
  obtain ⟨A, c, rfl, hR⟩ := r.rde encP_len
  refine CC.ofN Try.func18 Try.ntmps18 Try.results18 rfl (by decide) (by kernel_rfl) ?_
  simp (maxSteps := 1000000) -implicitDefEqProofs only [push_cast, seval]
  refine WC.loopA (by kernel_rfl) [8] [2, 3, 4, 9, 10, 11, 12, 13, 14, 15, 16, 17] (fun i : Nat => [.int .i64 i]) (fun i h' => i ≤ L.length ∧ Pre (h.alloc (AOb.cells [.slice A L.length c] .solo h.n)) h') (fun i => L.length - i) 0 (by kernel_rfl) ⟨Nat.zero_le _, Pre.refl _⟩ ?_
  intro i g h1 hJ
  have hi := hJ.1
  have p0 := hJ.2
  clear hJ
  have p1 : Pre h h1 := ((Pre.refl h).alloc _).trans p0
  have e1 : h1.ob h.n = _ := (p0.ob _ (lt_alloc _)).trans (alloc_same _)
  have l1 : h.n < h1.n := Nat.lt_of_lt_of_le (lt_alloc _) p0.n
  simp (maxSteps := 1000000) -implicitDefEqProofs only [push_cast, seval]
  with_reducible refine bcase_d (fun hb => ?_) (fun hb => ?_)
  · have hi' : i < L.length := by omega
    have ok1 : OkPc L[i].1 i := by have := ok i (by rw [List.length_map]; exact hi'); simpa using this
    have kr := (w.kids L[i] (List.getElem_mem hi'))
    with_reducible refine hR.use big p1 hi' (fun id off eA hlt hr => ?_)
    subst eA
    simp only [encP] at hr
    have r0 := (rd_3 hr).1
    have r1 := (rd_3 hr).2.1
    have r2 := (rd_3 hr).2.2
    have y1 := kr.one
    have y2 := rdv_cells kr
    simp (maxSteps := 1000000) -implicitDefEqProofs only [push_cast, seval, hr, r0, r1, r2, hlt, y1, y2]
    repeat (with_reducible refine And.intro ?_ ?_; · (first | omega | decide))
    have pp : Pre h1 ((h1.alloc (AOb.cells [Value.int IntKind.i64 0, Value.string ⟨#[]⟩, Value.slice none 0 0] .solo h1.n)).set h1.n (AOb.cells [Value.int IntKind.i64 (L[i].fst.op : Nat), Value.string L[i].fst.text, L[i].snd] .solo h1.n)) := ((Pre.refl h1).alloc _).set (Nat.le_refl _) _
    with_reducible refine CD.to (pieceOk_c L[i].1 L[i].2 i _ (kr.pre (p1.trans pp)) ok1 (by omega)) ?_
    simp (maxSteps := 1000000) -implicitDefEqProofs only [push_cast, seval]
    rw [wrapSucc (by omega)]
    exact ⟨i + 1, by kernel_rfl, ⟨by omega, p0.trans pp⟩, by omega⟩
  · simp (maxSteps := 1000000) -implicitDefEqProofs only [push_cast, seval, e1, rd_of e1, rd1_of e1, l1]
    have hin : inB (L.length : Nat) 1 60 = true := by simp only [inB, Bool.and_eq_true, decide_eq_true_eq]; omega
    with_reducible refine CD.to (within_c _ _ _ _) ?_
    rw [hin]
    simp (maxSteps := 1000000) -implicitDefEqProofs only [push_cast, seval]
    exact p1.keep
end Go.Proofs.Ytciajhpeikemoaa
namespace Go.Proofs.Ytciajhpeikemoaa
open Go Go.Sim Go.Proofs
set_option linter.unusedSimpArgs false
set_option linter.unusedVariables false
set_option maxRecDepth 100000
set_option maxHeartbeats 1000000
/-- What reading a pattern gives. -/
def PatV (s : ByteArray) (v : Value) (h' : AH) : Prop :=
  (readP s = none ∧ v = .tuple #[.agg #[.slice none 0 0], .bool false]) ∨ ∃ rv L, readP s = some (L.map Prod.fst) ∧ v = .tuple #[.agg #[rv], .bool true] ∧ RdPat h' rv L
/-- As PatV; all of it newly made. -/
def PatVF (s : ByteArray) (b : Nat) (v : Value) (h' : AH) : Prop :=
  (readP s = none ∧ v = .tuple #[.agg #[.slice none 0 0], .bool false]) ∨ ∃ rv L, readP s = some (L.map Prod.fst) ∧ v = .tuple #[.agg #[rv], .bool true] ∧ RdPat h' rv L ∧ (∀ i, (atBlock rv i ∨ ∃ x ∈ L, atBlock x.2 i) → b ≤ i)
theorem PatVF.v {s : ByteArray} {b : Nat} {v : Value} {h' : AH} (w : PatVF s b v h') : PatV s v h' := by
  rcases w with w | ⟨rv, L, a, b, c, _⟩
  · exact .inl w
  · exact .inr ⟨rv, L, a, b, c⟩
theorem ReadPattern_iF (s : ByteArray) (h : AH) (hs0 : s.size ≤ maxLen) : CC Try.prog 17 [.string s] h (fun v h' => Pre h h' ∧ PatVF s h.n v h') := by
  have hml := maxLen_eq
  by_cases hs : 1 ≤ s.size ∧ s.size ≤ 24
  · have hin : inB (s.size : Nat) 1 24 = true := by simp only [inB, Bool.and_eq_true, decide_eq_true_eq]; omega
    have eN : pAlt s (s.size + 1) 0 [] = none → readP s = none := fun e => by unfold readP; rw [if_pos hs, e]
    have eS : ∀ k o r, pAlt s (s.size + 1) 0 [] = some (k, o, r) → readP s = if k = s.size then some o else none := fun k o r e => by unfold readP; rw [if_pos hs, e]
    have e0 : s.extract 0 s.size = s := ByteArray.extract_zero_size
    refine CC.ofN Try.func17 Try.ntmps17 Try.results17 rfl (by decide) (by kernel_rfl) ?_
    simp (maxSteps := 1000000) -implicitDefEqProofs only [push_cast, seval]
    with_reducible refine CD.to (within_c _ _ _ _) ?_
    rw [hin]
    simp (maxSteps := 1000000) -implicitDefEqProofs only [push_cast, seval]
    have hA := alternatives_o s hs.2 (s.size + 1) 0 (by omega) (h.n + 1) (h.n + 1) 0 [] ((h.alloc (AOb.cells [.slice none 0 0] .solo h.n)).alloc (AOb.cells [.string s, .slice none 0 0, .bool false] .solo (h.n + 1))) (Nat.zero_le _)
      ⟨Nat.lt_succ_self _, Nat.le_refl _, Nat.zero_le _, .slice none 0 0, [], by simp only [cI, e0]; exact alloc_same _, Pcs.nil _ _ _ _, rfl⟩ (by simp; omega)
    have p0 : Pre h ((h.alloc (AOb.cells [.slice none 0 0] .solo h.n)).alloc (AOb.cells [.string s, .slice none 0 0, .bool false] .solo (h.n + 1))) := ((Pre.refl h).alloc _).alloc _
    have c0 : ((h.alloc (AOb.cells [.slice none 0 0] .solo h.n)).alloc (AOb.cells [.string s, .slice none 0 0, .bool false] .solo (h.n + 1))).ob h.n = AOb.cells [.slice none 0 0] .solo h.n := (alloc_lt _ (Nat.lt_succ_self _)).trans (alloc_same _)
    have l0 : ((h.alloc (AOb.cells [.slice none 0 0] .solo h.n)).alloc (AOb.cells [.string s, .slice none 0 0, .bool false] .solo (h.n + 1))).n = h.n + 2 := rfl
    generalize (h.alloc (AOb.cells [.slice none 0 0] .solo h.n)).alloc (AOb.cells [.string s, .slice none 0 0, .bool false] .solo (h.n + 1)) = H at *
    generalize pAlt s (s.size + 1) 0 [] = res at *
    with_reducible refine CC.mono hA (fun y h1 hy => ?_)
    clear hA
    with_reducible refine hy.cases (fun k1 o1 r1 er ey f1 G1 => ?_) (fun er r1 ey f1 B1 => ?_)
    · clear hy
      subst ey
      have eS := eS _ _ _ er
      clear er eN
      have hp1 := G1.lt
      have hk1 := G1.hi
      have c1 : h1.ob h.n = _ := (f1.ob _ (Nat.lt_succ_self _)).trans c0
      have lc : h.n < h1.n := by have := f1.n; omega
      have fp : Pre h h1 := ⟨by have := f1.n; omega, fun i hi => (f1.ob i (by omega)).trans (p0.ob i hi)⟩
      with_reducible refine G1.cell (fun v L e w hL hl => ?_)
      simp only [cI] at e
      have t := Txt.of s k1 hk1
      have tE := t.emp
      clear t
      generalize s.extract k1 s.size = T at *
      simp (maxSteps := 1000000) -implicitDefEqProofs only [push_cast, seval, e, rd_of e, rd1_of e, hp1, c1, rd_of c1, rd1_of c1, lc, tE]
      with_reducible refine bcase_d (fun hb => ?_) (fun hb => ?_)
      · have ek : k1 = s.size := by omega
        rw [if_pos ek] at eS
        have hok := readP_ok eS
        rw [← hL] at hok eS
        rw [List.length_map] at hok
        simp (maxSteps := 1000000) -implicitDefEqProofs only [push_cast, seval, e, rd_of e, rd1_of e, hp1, c1, rd_of c1, rd1_of c1, lc, tE]
        with_reducible refine CD.to (PatternOk_c v L h1 w.pat hok.1 hok.2.1 hok.2.2) ?_
        have y1 := w.pat.r.one
        have y2 := rdv_cells w.pat.r
        simp (maxSteps := 1000000) -implicitDefEqProofs only [push_cast, seval, e, rd_of e, rd1_of e, hp1, c1, rd_of c1, rd1_of c1, lc, tE, y1, y2]
        refine ⟨fp.set (Nat.le_refl _) _, .inr ⟨v, L, eS, rfl, ⟨w.pat.r.keep (Nat.le_refl _) (fun i hi => set_ne _ ?_), fun x hx => (w.kids x hx).keep (Nat.le_refl _) (fun i hi => set_ne _ ?_)⟩, fun i hi => hi.elim (fun e => by have := (w.gr.range e).1; omega) (fun ⟨x, hx, e⟩ => by have := (w.far x hx i e).1; omega)⟩⟩
        · have := (w.gr.range hi).1
          omega
        · have := (w.far x hx i hi).1
          omega
      · have ek : ¬ k1 = s.size := by omega
        rw [if_neg ek] at eS
        simp (maxSteps := 1000000) -implicitDefEqProofs only [push_cast, seval, e, rd_of e, rd1_of e, hp1, c1, rd_of c1, rd1_of c1, lc, tE]
        exact ⟨fp.set (Nat.le_refl _) _, .inl ⟨eS, rfl⟩⟩
    · clear hy
      subst ey
      have eN := eN er
      clear er eS
      have c1 : h1.ob h.n = _ := (f1.ob _ (Nat.lt_succ_self _)).trans c0
      have lc : h.n < h1.n := by have := f1.n; omega
      have fp : Pre h h1 := ⟨by have := f1.n; omega, fun i hi => (f1.ob i (by omega)).trans (p0.ob i hi)⟩
      have hp1 := B1.lt
      with_reducible refine B1.cell (fun k v cs j a e g d c f => ?_)
      simp only [cI] at e
      simp (maxSteps := 1000000) -implicitDefEqProofs only [push_cast, seval, e, rd_of e, rd1_of e, hp1, c1, rd_of c1, rd1_of c1, lc]
      exact ⟨fp.set (Nat.le_refl _) _, .inl ⟨eN, rfl⟩⟩
  · have hin : inB (s.size : Nat) 1 24 = false := by rw [Bool.eq_false_iff]; simp only [inB, ne_eq, Bool.and_eq_true, decide_eq_true_eq]; omega
    have eR : readP s = none := by unfold readP; rw [if_neg hs]
    refine CC.ofN Try.func17 Try.ntmps17 Try.results17 rfl (by decide) (by kernel_rfl) ?_
    simp (maxSteps := 1000000) -implicitDefEqProofs only [push_cast, seval]
    with_reducible refine CD.to (within_c _ _ _ _) ?_
    rw [hin]
    simp (maxSteps := 1000000) -implicitDefEqProofs only [push_cast, seval]
    exact ⟨((Pre.refl h).alloc _).set (Nat.le_refl _) _, .inl ⟨eR, rfl⟩⟩
theorem ReadPattern_i (s : ByteArray) (h : AH) (hs0 : s.size ≤ maxLen) : CC Try.prog 17 [.string s] h (fun v h' => Pre h h' ∧ PatV s v h') :=
  CC.mono (ReadPattern_iF s h hs0) (fun _ _ hv => ⟨hv.1, hv.2.v⟩)
end Go.Proofs.Ytciajhpeikemoaa
namespace Go.Proofs.Ytciajhpeikemoaa
open Go Go.Sim Go.Proofs
set_option linter.unusedSimpArgs false
set_option linter.unusedVariables false
set_option maxRecDepth 100000
set_option maxHeartbeats 1000000
/-- The cells of the document's reader. -/
def cS (s : ByteArray) (k : Nat) (bad : Bool) (v : Value) : List Value := [.string s, .int .i64 (k : Nat), .bool bad, v]
def signsB : ByteArray := ⟨#[42, 43, 63, 124, 40, 41, 91, 93, 46, 94, 36, 92]⟩
theorem sp_yes : ∀ j : Fin 12, special (byteAt signsB j.val).toNat = true := by decide
theorem sp_in : ∀ b : Fin 256, special b.val = true → ∃ j : Fin 12, (byteAt signsB j.val).toNat = b.val := by decide
theorem l04Special_c (b : Nat) (hb : b < 256) (h : AH) : CD Try.prog 209 [.int .u8 (b : Nat)] h (.bool (special b)) h := by
  refine CD.quiet ?_ (low_bool _ _)
  have hz : signsB.size = 12 := rfl
  have hS : (⟨#[42, 43, 63, 124, 40, 41, 91, 93, 46, 94, 36, 92]⟩ : ByteArray) = signsB := rfl
  refine CC.ofN Try.func209 Try.ntmps209 Try.results209 rfl (by decide) (by kernel_rfl) ?_
  simp (maxSteps := 1000000) -implicitDefEqProofs only [push_cast, seval]
  rw [hS]
  refine WC.loopA (by kernel_rfl) [4] [2, 5, 6, 7, 8, 9, 10, 11, 12, 13, 14, 15] (fun i : Nat => [.int .i64 i]) (fun i h' => (i ≤ 12 ∧ ∀ j, j < i → (byteAt signsB j).toNat ≠ b) ∧ h' = h) (fun i => 12 - i) 0 (by kernel_rfl) ⟨⟨Nat.zero_le _, fun j hj => by omega⟩, rfl⟩ ?_
  intro i g h1 hJ
  have hi := hJ.1.1
  have hj := hJ.1.2
  have hh := hJ.2
  clear hJ
  subst hh
  simp (maxSteps := 1000000) -implicitDefEqProofs only [push_cast, seval, hz]
  with_reducible refine bcase_d (fun hb2 => ?_) (fun hb2 => ?_)
  · have hi' : i < 12 := by omega
    simp (maxSteps := 1000000) -implicitDefEqProofs only [push_cast, seval, hz]
    refine And.intro (by omega) (And.intro (by omega) ?_)
    with_reducible refine bcase_d (fun hb3 => ?_) (fun hb3 => ?_)
    · have := sp_yes ⟨i, hi'⟩
      simp only at this
      rw [show (byteAt signsB i).toNat = b by omega] at this
      rw [this]
      simp (maxSteps := 1000000) -implicitDefEqProofs only [push_cast, seval, hz]
      exact Keep.refl _ _
    · simp (maxSteps := 1000000) -implicitDefEqProofs only [push_cast, seval, hz]
      rw [wrapSucc (by omega)]
      refine ⟨i + 1, by kernel_rfl, ⟨by omega, fun j hj' => ?_⟩, by omega⟩
      by_cases e : j = i
      · subst e; omega
      · exact hj j (by omega)
  · have e12 : i = 12 := by omega
    have : special b = false := by
      rw [Bool.eq_false_iff]
      intro hsp
      obtain ⟨j, hj'⟩ := sp_in ⟨b, hb⟩ hsp
      exact hj j.val (by have := j.isLt; omega) hj'
    rw [this]
    simp (maxSteps := 1000000) -implicitDefEqProofs only [push_cast, seval]
    exact Keep.refl _ _
theorem is_s (p : Nat) (s : ByteArray) (k : Nat) (bad : Bool) (v : Value) (c : Nat) (ci : Int) (hci : (c : Int) = ci) (h : AH) (e : h.ob p = .cells (cS s k bad v) .solo p) (hp : p < h.n) (hs : s.size ≤ 24) :
    CD Try.prog 101 [.pointer (some ⟨p, 0, none⟩), .int .u8 ci] h (.bool (!bad && isAt s k c)) h := by
  subst hci
  refine CD.quiet ?_ (low_bool _ _)
  have e : h.ob p = .cells [.string s, .int .i64 (k : Nat), .bool bad, v] .solo p := e
  refine CC.ofN Try.func101 Try.ntmps101 Try.results101 rfl (by decide) (by kernel_rfl) ?_
  simp (maxSteps := 1000000) -implicitDefEqProofs only [push_cast, seval]
  refine WC.draw' (by kernel_rfl) (by kernel_rfl) (.q 0 (.q 1 (.q 2 (.q 3 (.q 4 (.q 5 (.q 6 (.q 7 (.q 8 (.q 9 (.q 10 (.q 11 (.q 12 (.q 13 (.q 14 (.q 15 (.q 16 (.q 17 (.q 18 (.q 19 (.q 20 (.q 21 (.q 22 (.q 23 (.q 24 (.q 25 (.q 26 (.q 27 (.q 28 (.q 29 (.q 30 (.done)))))))))))))))))))))))))))))))) (by kernel_rfl) ?_
  simp (maxSteps := 1000000) -implicitDefEqProofs only [push_cast, seval, e, rd_of e, rd1_of e, hp]
  cases bad with
  | true =>
    simp (maxSteps := 1000000) -implicitDefEqProofs only [push_cast, seval, e, rd_of e, rd1_of e, hp]
    exact Keep.refl _ _
  | false =>
    simp (maxSteps := 1000000) -implicitDefEqProofs only [push_cast, seval, e, rd_of e, rd1_of e, hp]
    with_reducible refine bcase_d (fun hb => ?_) (fun hb => ?_)
    · simp (maxSteps := 1000000) -implicitDefEqProofs only [push_cast, seval, e, rd_of e, rd1_of e, hp]
      refine ⟨by omega, by omega, ?_, Keep.refl _ _⟩
      rw [isAt_of (by omega), decide_cast]
    · simp (maxSteps := 1000000) -implicitDefEqProofs only [push_cast, seval, e, rd_of e, rd1_of e, hp]
      rw [isAt_no (by omega)]
      exact ⟨rfl, Keep.refl _ _⟩
theorem put_s (n0 p : Nat) (s : ByteArray) (k : Nat) (bad : Bool) (v x : Value) (op : Nat) (text : ByteArray) (kids : List Nat) (cs : List Value) (j : Nat) (h : AH) (e : h.ob p = .cells (cS s k bad v) .solo p) (hp : p < h.n) (hn : n0 ≤ p) (g : Gr n0 h v 3 cs) (hc : cs.length = j * 3) (hj : j ≤ 1000) (vp : ∀ i, atBlock v i → i ≠ p) (r : RdV h x 1 encNa kids) (xn : ∀ i, atBlock x i → n0 ≤ i ∧ i ≠ p ∧ ¬ atBlock v i) (hb : bad = true ∨ j + 1 ≤ 60) :
    CC Try.prog 102 [.pointer (some ⟨p, 0, none⟩), .agg #[.int .i64 (op : Nat), .string text, x]] h (fun y h' => y = .int .i64 (j : Nat) ∧ ∃ v', Put n0 p h h' v v' x cs op text kids ∧ h'.ob p = .cells (cS s k bad v') .solo p) := by
  have e : h.ob p = .cells [.string s, .int .i64 (k : Nat), .bool bad, v] .solo p := e
  have y1 := r.one
  have y2 := rdv_cells r
  refine CC.ofN Try.func102 Try.ntmps102 Try.results102 rfl (by decide) (by kernel_rfl) ?_
  simp (maxSteps := 1000000) -implicitDefEqProofs only [push_cast, seval, e, rd_of e, rd1_of e, hp, y1, y2]
  refine WC.drawR (by kernel_rfl) (by kernel_rfl) (.q 0 (.q 1 (.q 2 (.q 3 (.q 4 (.q 5 (.a 6 false (.a 7 false (.q 8 (.q 9 (.a 10 true (.done)))))))))))) (by kernel_rfl) ?_
  simp (maxSteps := 1000000) -implicitDefEqProofs only [push_cast, seval, e, rd_of e, rd1_of e, hp, y1, y2]
  have p1 : Pre h (h.alloc (AOb.cells [Value.int IntKind.i64 (op : Nat), Value.string text, x] .solo h.n)) := (Pre.refl h).alloc _
  have g1 := g.pre p1
  have e1 : (h.alloc (AOb.cells [Value.int IntKind.i64 (op : Nat), Value.string text, x] .solo h.n)).ob p = _ := (p1.ob _ hp).trans e
  have n1 : (h.alloc (AOb.cells [Value.int IntKind.i64 (op : Nat), Value.string text, x] .solo h.n)).n = h.n + 1 := rfl
  have kr := r.pre p1
  have gl : ∀ i, atBlock v i → i < h.n := fun i hi => (g.range hi).2
  have xl : ∀ i, atBlock x i → i < h.n := fun i hi => r.lt hi
  generalize hH : h.alloc (AOb.cells [Value.int IntKind.i64 (op : Nat), Value.string text, x] .solo h.n) = h1 at *
  have hp1 : p < h1.n := by omega
  rw [← n1]
  refine Gr.app1 (h0 := ⟨n0, h1.ob⟩) si28 (by decide) (by decide) (notInt_sl und28) g1 ⟨by show n0 ≤ h1.n; omega, fun _ _ => rfl⟩ (m := 1) rfl (by omega) (by decide) (fun h2 gr2 ow2 _ n2 f2 => ?_)
  have e2 : h2.ob p = _ := (f2 p hp1 (fun hi => vp p hi rfl)).trans e1
  have hp2 : p < h2.n := by omega
  simp (maxSteps := 1000000) -implicitDefEqProofs only [push_cast, seval, e2, rd_of e2, rd1_of e2, hp2, e1, e, y1, y2]
  have fin : ∀ bad', bad' = bad → ∃ v', Put n0 p h (h2.set p (AOb.cells [Value.string s, Value.int IntKind.i64 (k : Nat), Value.bool bad', Value.slice (some ⟨h1.n + 1, 0, none⟩) (cs.length / 3 + 1) 3] .solo p)) v v' x cs op text kids ∧ AOb.cells [Value.string s, Value.int IntKind.i64 (k : Nat), Value.bool bad', Value.slice (some ⟨h1.n + 1, 0, none⟩) (cs.length / 3 + 1) 3] .solo p = .cells (cS s k bad v') .solo p := fun bad' hbb => by
    subst hbb
    refine ⟨_, ⟨by show h.n ≤ h2.n; omega, gr2.keep (Nat.le_refl _) (fun i hi => ?_), fun i hi => ?_, kr.keep (by show h1.n ≤ h2.n; omega) (fun i hi => ?_), fun i hi => ⟨(xn i hi).1, (xn i hi).2.1, fun hi2 => ?_⟩, fun i hi hip hv => ?_⟩, rfl⟩
    · have : h1.n + 1 = i := hi
      exact set_ne _ (by omega)
    · have : h1.n + 1 = i := hi
      omega
    · have := xn i hi
      have := xl i hi
      exact (set_ne _ (by omega)).trans (f2 i (by omega) (fun e' => by have := xn i hi; exact this.2.2 e'))
    · have := xl i hi
      have : h1.n + 1 = i := hi2
      omega
    · exact (set_ne _ hip).trans ((f2 i (by omega) hv).trans (p1.ob i hi))
  refine And.intro ((f2 h.n (by omega) (fun hh => by have := gl _ hh; omega)).trans (alloc_lt _ (by omega)).symm) (And.intro ((alloc_lt _ hp1).trans e1).symm ?_)
  have wr : IntKind.i64.wrap ((cs.length : Int) / 3 + 1 - 1) = (j : Nat) := by rw [w64 (by omega) (by omega)]; omega
  with_reducible refine bcase_d (fun hb2 => ?_) (fun hb2 => ?_)
  · have hbt : bad = true := by
      rcases hb with hb | hb
      · exact hb
      · omega
    simp (maxSteps := 1000000) -implicitDefEqProofs only [push_cast, seval, e2, rd_of e2, rd1_of e2, hp2, e1, e, y1, y2]
    rw [wr]
    exact ⟨rfl, fin true hbt.symm⟩
  · simp (maxSteps := 1000000) -implicitDefEqProofs only [push_cast, seval, e2, rd_of e2, rd1_of e2, hp2, e1, e, y1, y2]
    rw [wr]
    exact ⟨rfl, fin bad rfl⟩
end Go.Proofs.Ytciajhpeikemoaa
namespace Go.Proofs.Ytciajhpeikemoaa
open Go Go.Sim Go.Proofs
set_option linter.unusedSimpArgs false
set_option linter.unusedVariables false
set_option maxRecDepth 100000
set_option maxHeartbeats 1000000
theorem putGs (n0 p : Nat) (s : ByteArray) (k : Nat) (out : List Pc) (x : Value) (op : Nat) (oi : Int) (hoi : (op : Int) = oi) (text : ByteArray) (kids : List Nat) (h : AH) (G : Rg (cS s) s n0 p h k out) (hj : out.length + 1 ≤ 60) (r : RdV h x 1 encNa kids)
    (xn : ∀ i, atBlock x i → n0 ≤ i ∧ i ≠ p ∧ ∀ v, h.ob p = .cells (cS s k false v) .solo p → ¬ atBlock v i) :
    CC Try.prog 102 [.pointer (some ⟨p, 0, none⟩), .agg #[.int .i64 oi, .string text, x]] h (fun y h' => y = .int .i64 (out.length : Nat) ∧ Fr n0 h h' ∧ Rg (cS s) s n0 p h' k (out ++ [⟨op, text, kids⟩])) := by
  subst hoi
  obtain ⟨v, L, e, w, rfl⟩ := G.ex
  rw [List.length_map] at hj ⊢
  refine CC.mono (put_s n0 p s k false v x op text kids _ L.length h e G.lt G.le w.gr (flatP_len L) (by omega) w.vp r (fun i hi => ⟨(xn i hi).1, (xn i hi).2.1, (xn i hi).2.2 v e⟩) (.inr hj)) (fun y h' hy => ?_)
  obtain ⟨hy, v', q, e'⟩ := hy
  exact ⟨hy, q.fr G.lt G.le w.gr, q.good G.lt G.le G.hi w e'⟩
theorem putNs (n0 p : Nat) (s : ByteArray) (k : Nat) (out : List Pc) (op : Nat) (oi : Int) (hoi : (op : Int) = oi) (text : ByteArray) (h : AH) (G : Rg (cS s) s n0 p h k out) (hj : out.length + 1 ≤ 60) :
    CC Try.prog 102 [.pointer (some ⟨p, 0, none⟩), .agg #[.int .i64 oi, .string text, .slice none 0 0]] h (fun y h' => y = .int .i64 (out.length : Nat) ∧ Fr n0 h h' ∧ Rg (cS s) s n0 p h' k (out ++ [⟨op, text, []⟩])) :=
  putGs n0 p s k out _ op oi hoi text [] h G hj (RdV.nil _ _ _ _) (fun i hi => False.elim hi)
theorem lit_far (n0 p : Nat) (s : ByteArray) (k : Nat) (out : List Pc) (h : AH) (G : Rg (cS s) s n0 p h k out) (n : Nat) (o : AOb) : ∀ i, atBlock (.slice (some ⟨h.n, 0, none⟩) n 1) i → n0 ≤ i ∧ i ≠ p ∧ ∀ v, (h.alloc o).ob p = .cells (cS s k false v) .solo p → ¬ atBlock v i := fun i hi => by
  have hi' : h.n = i := hi
  have h1 := G.lt
  have h2 := G.le
  refine ⟨by omega, by omega, fun v e ev => ?_⟩
  obtain ⟨v', L, e', w, _⟩ := G.ex
  rw [alloc_lt _ h1, e'] at e
  have : v' = v := by simpa [cS] using e
  subst this
  have := (w.gr.range ev).2
  omega
theorem putGs1 (n0 p : Nat) (s : ByteArray) (k : Nat) (out : List Pc) (op r : Nat) (oi : Int) (hoi : (op : Int) = oi) (h : AH) (G : Rg (cS s) s n0 p h k out) (hj : out.length + 1 ≤ 60) :
    CC Try.prog 102 [.pointer (some ⟨p, 0, none⟩), .agg #[.int .i64 oi, .string ⟨#[]⟩, .slice (some ⟨h.n, 0, none⟩) 1 1]] (h.alloc (.cells [.int .i64 (r : Nat)] .solo h.n)) (fun y h' => y = .int .i64 (out.length : Nat) ∧ Fr n0 h h' ∧ Rg (cS s) s n0 p h' k (out ++ [⟨op, ⟨#[]⟩, [r]⟩])) :=
  CC.mono (putGs n0 p s k out _ op oi hoi ⟨#[]⟩ [r] _ (G.pre ((Pre.refl h).alloc _)) hj (RdV.lit [r] 1) (lit_far n0 p s k out h G 1 _)) (fun y h' hy => ⟨hy.1, ((Fr.refl n0 h).alloc (by have := G.lt; have := G.le; omega) _).trans hy.2.1, hy.2.2⟩)
theorem putGs2 (n0 p : Nat) (s : ByteArray) (k : Nat) (out : List Pc) (op r r' : Nat) (oi : Int) (hoi : (op : Int) = oi) (h : AH) (G : Rg (cS s) s n0 p h k out) (hj : out.length + 1 ≤ 60) :
    CC Try.prog 102 [.pointer (some ⟨p, 0, none⟩), .agg #[.int .i64 oi, .string ⟨#[]⟩, .slice (some ⟨h.n, 0, none⟩) 2 1]] (h.alloc (.cells [.int .i64 (r : Nat), .int .i64 (r' : Nat)] .solo h.n)) (fun y h' => y = .int .i64 (out.length : Nat) ∧ Fr n0 h h' ∧ Rg (cS s) s n0 p h' k (out ++ [⟨op, ⟨#[]⟩, [r, r']⟩])) :=
  CC.mono (putGs n0 p s k out _ op oi hoi ⟨#[]⟩ [r, r'] _ (G.pre ((Pre.refl h).alloc _)) hj (RdV.lit [r, r'] 1) (lit_far n0 p s k out h G 2 _)) (fun y h' hy => ⟨hy.1, ((Fr.refl n0 h).alloc (by have := G.lt; have := G.le; omega) _).trans hy.2.1, hy.2.2⟩)
theorem putBs2 (n0 p m : Nat) (s : ByteArray) (op r r' : Nat) (oi : Int) (hoi : (op : Int) = oi) (h : AH) (G : Rb (cS s) s n0 p h m) (hj : m ≤ 500) :
    CC Try.prog 102 [.pointer (some ⟨p, 0, none⟩), .agg #[.int .i64 oi, .string ⟨#[]⟩, .slice (some ⟨h.n, 0, none⟩) 2 1]] (h.alloc (.cells [.int .i64 (r : Nat), .int .i64 (r' : Nat)] .solo h.n)) (fun y h' => (∃ r : Nat, y = .int .i64 (r : Nat)) ∧ Fr n0 h h' ∧ Rb (cS s) s n0 p h' (m + 1)) := by
  subst hoi
  have h1 := G.lt
  have h2 := G.le
  have p1 : Pre h (h.alloc (.cells [.int .i64 (r : Nat), .int .i64 (r' : Nat)] .solo h.n)) := (Pre.refl h).alloc _
  obtain ⟨k, v, cs, j, a, b, c, d, e, f⟩ := G.ex
  refine CC.mono (put_s n0 p s k true v _ op ⟨#[]⟩ [r, r'] _ j _ ((p1.ob _ h1).trans b) (Nat.lt_of_lt_of_le h1 p1.n) h2 (c.pre p1) d (by omega) f (RdV.lit [r, r'] 1) (fun i hi => ?_) (.inl rfl)) (fun y h' hy => ?_)
  · have hi' : h.n = i := hi
    refine ⟨by omega, by omega, fun ev => ?_⟩
    have := (c.range ev).2
    omega
  · obtain ⟨hy, v', q, e'⟩ := hy
    exact ⟨⟨_, hy⟩, ((Fr.refl n0 h).alloc (by omega) _).trans (q.fr (Nat.lt_of_lt_of_le h1 p1.n) h2 (c.pre p1)), q.bad (Nat.lt_of_lt_of_le h1 p1.n) h2 a d e e'⟩
theorem brk_here {s : ByteArray} {a : Nat} (h : a < s.size) (e : (byteAt s a).toNat = 93) : brk s a = a := by rw [brk, if_pos h, if_pos e]
theorem brk_next {s : ByteArray} {a : Nat} (h : a < s.size) (e : ¬ (byteAt s a).toNat = 93) : brk s a = brk s (a + 1) := by rw [brk, if_pos h, if_neg e]
theorem brk_end {s : ByteArray} {a : Nat} (h : ¬ a < s.size) : brk s a = s.size := by rw [brk, if_neg h]
theorem set_s (n0 p : Nat) (s : ByteArray) (k : Nat) (out : List Pc) (h : AH) (hs : s.size ≤ 24) (G : Rg (cS s) s n0 p h k out) (hk1 : k < s.size) (hj : out.length + 2 * (s.size - k) ≤ 50) :
    CC Try.prog 208 [.pointer (some ⟨p, 0, none⟩)] h (Ro (cS s) s n0 p h (out.length + 2 * (s.size - k)) (pSet s (k + 1) out)) := by
  have hp := G.lt
  have hn := G.le
  have hk := G.hi
  obtain ⟨v, L, e, w, hL⟩ := G.ex
  have hle : L.length = out.length := by rw [← hL]; simp
  obtain ⟨k1, ek1⟩ : ∃ k1, k1 = k + 1 := ⟨_, rfl⟩
  rw [← ek1]
  have hI := is_s p s k1 false v 94 94 rfl (h.set p (.cells (cS s k1 false v) .solo p)) (set_same _ _) hp hs
  simp only [cS] at e hI
  have w0 : IntKind.i64.wrap ((k : Int) + 1) = (k1 : Int) := by rw [wrapSucc (by omega), ek1]
  have eP : pSet s k1 out = (if brk s (if isAt s k1 94 then k1 + 1 else k1) = s.size ∨ brk s (if isAt s k1 94 then k1 + 1 else k1) = (if isAt s k1 94 then k1 + 1 else k1) then none else some (brk s (if isAt s k1 94 then k1 + 1 else k1) + 1, out ++ [⟨if isAt s k1 94 then 4 else 3, s.extract (if isAt s k1 94 then k1 + 1 else k1) (brk s (if isAt s k1 94 then k1 + 1 else k1)), []⟩], out.length)) := rfl
  rw [eP]
  have bad : ∀ a : Nat, a ≤ s.size → ∀ r : Nat, Ro (cS s) s n0 p h (out.length + 2 * (s.size - k)) none (.int .i64 (r : Nat)) (h.set p (.cells [.string s, .int .i64 (a : Nat), .bool true, v] .solo p)) := fun a ha r =>
    ⟨(Fr.refl n0 h).set hn _, .inr ⟨rfl, ⟨r, rfl⟩, Rb.atP G.lt hn w (by omega) ha⟩⟩
  cases hc : isAt s k1 94 with
  | true =>
    rw [hc] at hI
    have hlt := isAt_lt hc
    simp only [if_true]
    obtain ⟨b, eb⟩ : ∃ b, b = k1 + 1 := ⟨_, rfl⟩
    rw [← eb]
    have w1 : IntKind.i64.wrap ((k1 : Int) + 1) = (b : Int) := by rw [wrapSucc (by omega), eb]
    refine CC.ofN Try.func208 Try.ntmps208 Try.results208 rfl (by decide) (by kernel_rfl) ?_
    simp (maxSteps := 1000000) -implicitDefEqProofs only [push_cast, seval, e, rd_of e, rd1_of e, hp, w0]
    with_reducible refine CD.to hI ?_
    simp (maxSteps := 1000000) -implicitDefEqProofs only [push_cast, seval, e, rd_of e, rd1_of e, hp, w0, w1]
    have hbb : b ≤ s.size := by omega
    have hbr := brk_le s b hbb
    refine WC.loopA (by kernel_rfl) [] [28, 29, 30, 31, 32, 33, 34, 35, 36, 37, 38, 39, 40, 41, 42, 43, 44, 45, 46, 47, 48, 49, 50, 51, 52, 53, 54, 55, 56, 57] (fun a : Nat => []) (fun a h' => (b ≤ a ∧ a ≤ s.size ∧ brk s a = brk s b) ∧ h' = h.set p (.cells [.string s, .int .i64 (a : Nat), .bool false, v] .solo p)) (fun a => s.size - a) b (by kernel_rfl) ⟨⟨Nat.le_refl _, hbb, rfl⟩, rfl⟩ ?_
    intro a g h1 hJ
    have ha1 := hJ.1.1
    have ha2 := hJ.1.2.1
    have ha3 := hJ.1.2.2
    have hh := hJ.2
    clear hJ
    subst hh
    have wa : IntKind.i64.wrap ((a : Int) + 1) = ((a + 1 : Nat) : Int) := by rw [wrapSucc (by omega)]
    simp (maxSteps := 1000000) -implicitDefEqProofs only [push_cast, seval, hp]
    refine WC.draw' (by kernel_rfl) (by kernel_rfl) (.q 0 (.q 1 (.q 2 (.q 3 (.q 4 (.q 5 (.q 6 (.q 7 (.q 8 (.q 9 (.q 10 (.q 11 (.q 12 (.q 13 (.q 14 (.q 15 (.q 16 (.q 17 (.q 18 (.q 19 (.q 20 (.q 21 (.done))))))))))))))))))))))) (by kernel_rfl) ?_
    simp (maxSteps := 1000000) -implicitDefEqProofs only [push_cast, seval, hp]
    with_reducible refine bcase_d (fun hb => ?_) (fun hb => ?_)
    · have hi : a < s.size := by omega
      simp (maxSteps := 1000000) -implicitDefEqProofs only [push_cast, seval, hp]
      repeat (with_reducible refine And.intro ?_ ?_; · (first | omega | decide))
      with_reducible refine bcase_d (fun hb2 => ?_) (fun hb2 => ?_)
      · have eb2 := ha3.symm.trans (brk_here hi (by omega))
        rw [eb2]
        simp (maxSteps := 1000000) -implicitDefEqProofs only [push_cast, seval, hp]
        refine WC.draw' (by kernel_rfl) (by kernel_rfl) (.q 0 (.q 1 (.q 2 (.q 3 (.q 4 (.q 5 (.q 6 (.q 7 (.q 8 (.q 9 (.q 10 (.q 11 (.q 12 (.q 13 (.q 14 (.q 15 (.q 16 (.q 17 (.done))))))))))))))))))) (by kernel_rfl) ?_
        simp (maxSteps := 1000000) -implicitDefEqProofs only [push_cast, seval, hp]
        with_reducible refine bcase_d (fun hb3 => ?_) (fun hb3 => ?_)
        · exfalso; omega
        simp (maxSteps := 1000000) -implicitDefEqProofs only [push_cast, seval, hp]
        with_reducible refine bcase_d (fun hb4 => ?_) (fun hb4 => ?_)
        · rw [if_pos (.inr (by omega))]
          simp (maxSteps := 1000000) -implicitDefEqProofs only [push_cast, seval, hp]
          exact bad a ha2 0
        · rw [if_neg (by omega)]
          simp (maxSteps := 1000000) -implicitDefEqProofs only [push_cast, seval, hp]
          refine WC.draw' (by kernel_rfl) (by kernel_rfl) (.q 0 (.q 1 (.q 2 (.q 3 (.q 4 (.q 5 (.q 6 (.q 7 (.q 8 (.q 9 (.q 10 (.done)))))))))))) (by kernel_rfl) ?_
          simp (maxSteps := 1000000) -implicitDefEqProofs only [push_cast, seval, hp]
          repeat (with_reducible refine And.intro ?_ ?_; · (first | omega | decide))
          obtain ⟨a1, ea1⟩ : ∃ a1, a1 = a + 1 := ⟨_, rfl⟩
          have wa' : IntKind.i64.wrap ((a : Int) + 1) = (a1 : Int) := by rw [wa, ea1]
          rw [wa', ← ea1]
          have hR : Rg (cS s) s n0 p (h.set p (.cells (cS s a1 false v) .solo p)) a1 out := by rw [← hL]; exact Rg.at hp hn w (by omega)
          have hU := putNs n0 p s a1 out 4 4 rfl (s.extract b a) _ hR (by omega)
          simp only [cS] at hU
          with_reducible refine CC.mono hU (fun y h2 hy => ?_)
          have ey := hy.1
          have f2 := hy.2.1
          have G2 := hy.2.2
          clear hy hU
          subst ey
          simp (maxSteps := 1000000) -implicitDefEqProofs only [push_cast, seval]
          exact Ro.some (((Fr.refl n0 h).set hn _).trans f2) G2
      · have eb2 := brk_next hi (by omega)
        simp (maxSteps := 1000000) -implicitDefEqProofs only [push_cast, seval, hp]
        rw [wa]
        exact ⟨a + 1, ⟨⟨by omega, by omega, eb2.symm.trans ha3⟩, rfl⟩, by omega⟩
    · have eb2 := ha3.symm.trans (brk_end (s := s) (a := a) (by omega))
      rw [if_pos (.inl eb2)]
      have ea : a = s.size := by omega
      simp (maxSteps := 1000000) -implicitDefEqProofs only [push_cast, seval, hp]
      refine WC.draw' (by kernel_rfl) (by kernel_rfl) (.q 0 (.q 1 (.q 2 (.q 3 (.q 4 (.q 5 (.q 6 (.q 7 (.q 8 (.q 9 (.q 10 (.q 11 (.q 12 (.q 13 (.q 14 (.q 15 (.q 16 (.q 17 (.done))))))))))))))))))) (by kernel_rfl) ?_
      simp (maxSteps := 1000000) -implicitDefEqProofs only [push_cast, seval, hp]
      with_reducible refine bcase_d (fun hb3 => ?_) (fun hb3 => ?_)
      · simp (maxSteps := 1000000) -implicitDefEqProofs only [push_cast, seval, hp]
        exact bad a ha2 0
      · exfalso; omega
  | false =>
    rw [hc] at hI
    simp only [Bool.false_eq_true, if_false]
    refine CC.ofN Try.func208 Try.ntmps208 Try.results208 rfl (by decide) (by kernel_rfl) ?_
    simp (maxSteps := 1000000) -implicitDefEqProofs only [push_cast, seval, e, rd_of e, rd1_of e, hp, w0]
    with_reducible refine CD.to hI ?_
    simp (maxSteps := 1000000) -implicitDefEqProofs only [push_cast, seval, e, rd_of e, rd1_of e, hp, w0]
    have hbb : k1 ≤ s.size := by omega
    have hbr := brk_le s k1 hbb
    refine WC.loopA (by kernel_rfl) [] [28, 29, 30, 31, 32, 33, 34, 35, 36, 37, 38, 39, 40, 41, 42, 43, 44, 45, 46, 47, 48, 49, 50, 51, 52, 53, 54, 55, 56, 57] (fun a : Nat => []) (fun a h' => (k1 ≤ a ∧ a ≤ s.size ∧ brk s a = brk s k1) ∧ h' = h.set p (.cells [.string s, .int .i64 (a : Nat), .bool false, v] .solo p)) (fun a => s.size - a) k1 (by kernel_rfl) ⟨⟨Nat.le_refl _, hbb, rfl⟩, rfl⟩ ?_
    intro a g h1 hJ
    have ha1 := hJ.1.1
    have ha2 := hJ.1.2.1
    have ha3 := hJ.1.2.2
    have hh := hJ.2
    clear hJ
    subst hh
    have wa : IntKind.i64.wrap ((a : Int) + 1) = ((a + 1 : Nat) : Int) := by rw [wrapSucc (by omega)]
    simp (maxSteps := 1000000) -implicitDefEqProofs only [push_cast, seval, hp]
    refine WC.draw' (by kernel_rfl) (by kernel_rfl) (.q 0 (.q 1 (.q 2 (.q 3 (.q 4 (.q 5 (.q 6 (.q 7 (.q 8 (.q 9 (.q 10 (.q 11 (.q 12 (.q 13 (.q 14 (.q 15 (.q 16 (.q 17 (.q 18 (.q 19 (.q 20 (.q 21 (.done))))))))))))))))))))))) (by kernel_rfl) ?_
    simp (maxSteps := 1000000) -implicitDefEqProofs only [push_cast, seval, hp]
    with_reducible refine bcase_d (fun hb => ?_) (fun hb => ?_)
    · have hi : a < s.size := by omega
      simp (maxSteps := 1000000) -implicitDefEqProofs only [push_cast, seval, hp]
      repeat (with_reducible refine And.intro ?_ ?_; · (first | omega | decide))
      with_reducible refine bcase_d (fun hb2 => ?_) (fun hb2 => ?_)
      · have eb2 := ha3.symm.trans (brk_here hi (by omega))
        rw [eb2]
        simp (maxSteps := 1000000) -implicitDefEqProofs only [push_cast, seval, hp]
        refine WC.draw' (by kernel_rfl) (by kernel_rfl) (.q 0 (.q 1 (.q 2 (.q 3 (.q 4 (.q 5 (.q 6 (.q 7 (.q 8 (.q 9 (.q 10 (.q 11 (.q 12 (.q 13 (.q 14 (.q 15 (.q 16 (.q 17 (.done))))))))))))))))))) (by kernel_rfl) ?_
        simp (maxSteps := 1000000) -implicitDefEqProofs only [push_cast, seval, hp]
        with_reducible refine bcase_d (fun hb3 => ?_) (fun hb3 => ?_)
        · exfalso; omega
        simp (maxSteps := 1000000) -implicitDefEqProofs only [push_cast, seval, hp]
        with_reducible refine bcase_d (fun hb4 => ?_) (fun hb4 => ?_)
        · rw [if_pos (.inr (by omega))]
          simp (maxSteps := 1000000) -implicitDefEqProofs only [push_cast, seval, hp]
          exact bad a ha2 0
        · rw [if_neg (by omega)]
          simp (maxSteps := 1000000) -implicitDefEqProofs only [push_cast, seval, hp]
          refine WC.draw' (by kernel_rfl) (by kernel_rfl) (.q 0 (.q 1 (.q 2 (.q 3 (.q 4 (.q 5 (.q 6 (.q 7 (.q 8 (.q 9 (.q 10 (.done)))))))))))) (by kernel_rfl) ?_
          simp (maxSteps := 1000000) -implicitDefEqProofs only [push_cast, seval, hp]
          repeat (with_reducible refine And.intro ?_ ?_; · (first | omega | decide))
          obtain ⟨a1, ea1⟩ : ∃ a1, a1 = a + 1 := ⟨_, rfl⟩
          have wa' : IntKind.i64.wrap ((a : Int) + 1) = (a1 : Int) := by rw [wa, ea1]
          rw [wa', ← ea1]
          have hR : Rg (cS s) s n0 p (h.set p (.cells (cS s a1 false v) .solo p)) a1 out := by rw [← hL]; exact Rg.at hp hn w (by omega)
          have hU := putNs n0 p s a1 out 3 3 rfl (s.extract k1 a) _ hR (by omega)
          simp only [cS] at hU
          with_reducible refine CC.mono hU (fun y h2 hy => ?_)
          have ey := hy.1
          have f2 := hy.2.1
          have G2 := hy.2.2
          clear hy hU
          subst ey
          simp (maxSteps := 1000000) -implicitDefEqProofs only [push_cast, seval]
          exact Ro.some (((Fr.refl n0 h).set hn _).trans f2) G2
      · have eb2 := brk_next hi (by omega)
        simp (maxSteps := 1000000) -implicitDefEqProofs only [push_cast, seval, hp]
        rw [wa]
        exact ⟨a + 1, ⟨⟨by omega, by omega, eb2.symm.trans ha3⟩, rfl⟩, by omega⟩
    · have eb2 := ha3.symm.trans (brk_end (s := s) (a := a) (by omega))
      rw [if_pos (.inl eb2)]
      have ea : a = s.size := by omega
      simp (maxSteps := 1000000) -implicitDefEqProofs only [push_cast, seval, hp]
      refine WC.draw' (by kernel_rfl) (by kernel_rfl) (.q 0 (.q 1 (.q 2 (.q 3 (.q 4 (.q 5 (.q 6 (.q 7 (.q 8 (.q 9 (.q 10 (.q 11 (.q 12 (.q 13 (.q 14 (.q 15 (.q 16 (.q 17 (.done))))))))))))))))))) (by kernel_rfl) ?_
      simp (maxSteps := 1000000) -implicitDefEqProofs only [push_cast, seval, hp]
      with_reducible refine bcase_d (fun hb3 => ?_) (fun hb3 => ?_)
      · simp (maxSteps := 1000000) -implicitDefEqProofs only [push_cast, seval, hp]
        exact bad a ha2 0
      · exfalso; omega
end Go.Proofs.Ytciajhpeikemoaa
namespace Go.Proofs.Ytciajhpeikemoaa
open Go Go.Sim Go.Proofs
set_option linter.unusedSimpArgs false
set_option linter.unusedVariables false
set_option maxRecDepth 100000
set_option maxHeartbeats 1000000
def OweS (fn : FuncId) (s : ByteArray) (lo : Nat) (rd : Nat → List Pc → PRes) : Prop := ∀ n0 p k out h, lo ≤ k → Rg (cS s) s n0 p h k out → out.length + 2 * (s.size - k) ≤ 50 → CC Try.prog fn [.pointer (some ⟨p, 0, none⟩)] h (Ro (cS s) s n0 p h (out.length + 2 * (s.size - k)) (rd k out))
theorem ext_one (s : ByteArray) (b : Nat) (hb : b < s.size) : (⟨#[UInt8.ofNat (byteAt s b).toNat]⟩ : ByteArray) = s.extract b (b + 1) := by
  apply ByteArray.ext
  rw [ByteArray.data_extract]
  apply Array.ext
  · rw [Array.size_extract]
    show 1 = min (b + 1) s.size - b
    omega
  · intro i h1 h2
    have hi : i = 0 := by simp at h1; omega
    subst hi
    have hb' : b < s.data.size := hb
    simp [byteAt, Array.getElem_extract, Array.getElem?_eq_getElem hb']
theorem thing_s (n0 p : Nat) (s : ByteArray) (k : Nat) (out : List Pc) (h : AH) (hs : s.size ≤ 24) (alt : Nat → List Pc → PRes) (ha : OweS 47 s (k + 1) alt) (hg : GoodR 1 s alt) (G : Rg (cS s) s n0 p h k out) (hj : out.length + 2 * (s.size - k) ≤ 50) :
    CC Try.prog 183 [.pointer (some ⟨p, 0, none⟩)] h (Ro (cS s) s n0 p h (out.length + 2 * (s.size - k)) (pBase alt s k out)) := by
  have hp := G.lt
  have hn := G.le
  have hk := G.hi
  obtain ⟨v, L, e, w, hL⟩ := G.ex
  have hle : L.length = out.length := by rw [← hL]; simp
  simp only [cS] at e
  have bad : ∀ a : Nat, a ≤ s.size → ∀ r : Nat, Ro (cS s) s n0 p h (out.length + 2 * (s.size - k)) none (.int .i64 (r : Nat)) (h.set p (.cells [.string s, .int .i64 (a : Nat), .bool true, v] .solo p)) := fun a ha r =>
    ⟨(Fr.refl n0 h).set hn _, .inr ⟨rfl, ⟨r, rfl⟩, Rb.atP G.lt hn w (by omega) ha⟩⟩
  by_cases hkl : k < s.size
  case neg =>
    have eP : pBase alt s k out = none := by
      have a := fun c => isAt_no (s := s) (k := k) (c := c) (by omega)
      unfold pBase pSingle
      simp [a]
      omega
    rw [eP]
    refine CC.ofN Try.func183 Try.ntmps183 Try.results183 rfl (by decide) (by kernel_rfl) ?_
    simp (maxSteps := 1000000) -implicitDefEqProofs only [push_cast, seval]
    refine WC.draw' (by kernel_rfl) (by kernel_rfl) (.q 0 (.q 1 (.q 2 (.q 3 (.q 4 (.q 5 (.q 6 (.q 7 (.q 8 (.q 9 (.q 10 (.q 11 (.q 12 (.q 13 (.q 14 (.q 15 (.done))))))))))))))))) (by kernel_rfl) ?_
    simp (maxSteps := 1000000) -implicitDefEqProofs only [push_cast, seval, e, rd_of e, rd1_of e, hp]
    with_reducible refine bcase_d (fun hb => ?_) (fun hb => ?_)
    · simp (maxSteps := 1000000) -implicitDefEqProofs only [push_cast, seval, e, rd_of e, rd1_of e, hp]
      exact bad k hk 0
    · exfalso; omega
  obtain ⟨k1, ek1⟩ : ∃ k1, k1 = k + 1 := ⟨_, rfl⟩
  have w0 : IntKind.i64.wrap ((k : Int) + 1) = (k1 : Int) := by rw [wrapSucc (by omega), ek1]
  have hR : ∀ a : Nat, a ≤ s.size → Rg (cS s) s n0 p (h.set p (.cells (cS s a false v) .solo p)) a out := fun a ha => by rw [← hL]; exact Rg.at hp hn w ha
  have fr : ∀ o, Fr n0 h (h.set p o) := fun o => (Fr.refl n0 h).set hn o
  have leaf : ∀ (op : Nat) (oi : Int) (hoi : (op : Int) = oi), CC Try.prog 102 [.pointer (some ⟨p, 0, none⟩), .agg #[.int .i64 oi, .string ⟨#[]⟩, .slice none 0 0]] (h.set p (.cells [.string s, .int .i64 (k1 : Nat), .bool false, v] .solo p)) (Ro (cS s) s n0 p h (out.length + 2 * (s.size - k)) (some (k1, out ++ [⟨op, ⟨#[]⟩, []⟩], out.length))) := fun op oi hoi =>
    CC.mono (putNs n0 p s k1 out op oi hoi ⟨#[]⟩ _ (hR k1 (by omega)) (by omega)) (fun y h2 hy => by rw [hy.1]; exact Ro.some ((fr _).trans hy.2.1) hy.2.2)
  have hat : ∀ c, isAt s k c = ((byteAt s k).toNat == c) := fun c => isAt_of hkl
  unfold pBase
  rw [← ek1]
  by_cases h94 : (byteAt s k).toNat = 94
  · rw [if_pos (by rw [hat, h94]; rfl)]
    refine CC.ofN Try.func183 Try.ntmps183 Try.results183 rfl (by decide) (by kernel_rfl) ?_
    simp (maxSteps := 1000000) -implicitDefEqProofs only [push_cast, seval]
    refine WC.draw' (by kernel_rfl) (by kernel_rfl) (.q 0 (.q 1 (.q 2 (.q 3 (.q 4 (.q 5 (.q 6 (.q 7 (.q 8 (.q 9 (.q 10 (.q 11 (.q 12 (.q 13 (.q 14 (.q 15 (.done))))))))))))))))) (by kernel_rfl) ?_
    simp (maxSteps := 1000000) -implicitDefEqProofs only [push_cast, seval, e, rd_of e, rd1_of e, hp]
    with_reducible refine bcase_d (fun hb => ?_) (fun hb => ?_)
    · exfalso; omega
    simp (maxSteps := 1000000) -implicitDefEqProofs only [push_cast, seval, e, rd_of e, rd1_of e, hp]
    refine WC.draw' (by kernel_rfl) (by kernel_rfl) (.q 0 (.q 1 (.q 2 (.q 3 (.q 4 (.q 5 (.q 6 (.q 7 (.q 8 (.q 9 (.done))))))))))) (by kernel_rfl) ?_
    simp (maxSteps := 1000000) -implicitDefEqProofs only [push_cast, seval, e, rd_of e, rd1_of e, hp]
    repeat (with_reducible refine And.intro ?_ ?_; · (first | omega | decide))
    simp (maxSteps := 1000000) -implicitDefEqProofs only [push_cast, seval, e, rd_of e, rd1_of e, hp, h94, w0]
    with_reducible refine CC.mono (leaf 10 10 rfl) (fun y h2 hy => ?_)
    simp (maxSteps := 1000000) -implicitDefEqProofs only [push_cast, seval]
    exact hy
  rw [if_neg (by rw [hat]; simpa using h94)]
  by_cases h36 : (byteAt s k).toNat = 36
  · rw [if_pos (by rw [hat, h36]; rfl)]
    refine CC.ofN Try.func183 Try.ntmps183 Try.results183 rfl (by decide) (by kernel_rfl) ?_
    simp (maxSteps := 1000000) -implicitDefEqProofs only [push_cast, seval]
    refine WC.draw' (by kernel_rfl) (by kernel_rfl) (.q 0 (.q 1 (.q 2 (.q 3 (.q 4 (.q 5 (.q 6 (.q 7 (.q 8 (.q 9 (.q 10 (.q 11 (.q 12 (.q 13 (.q 14 (.q 15 (.done))))))))))))))))) (by kernel_rfl) ?_
    simp (maxSteps := 1000000) -implicitDefEqProofs only [push_cast, seval, e, rd_of e, rd1_of e, hp]
    with_reducible refine bcase_d (fun hb => ?_) (fun hb => ?_)
    · exfalso; omega
    simp (maxSteps := 1000000) -implicitDefEqProofs only [push_cast, seval, e, rd_of e, rd1_of e, hp]
    refine WC.draw' (by kernel_rfl) (by kernel_rfl) (.q 0 (.q 1 (.q 2 (.q 3 (.q 4 (.q 5 (.q 6 (.q 7 (.q 8 (.q 9 (.done))))))))))) (by kernel_rfl) ?_
    simp (maxSteps := 1000000) -implicitDefEqProofs only [push_cast, seval, e, rd_of e, rd1_of e, hp]
    repeat (with_reducible refine And.intro ?_ ?_; · (first | omega | decide))
    simp (maxSteps := 1000000) -implicitDefEqProofs only [push_cast, seval, e, rd_of e, rd1_of e, hp, h36, w0]
    with_reducible refine CC.mono (leaf 11 11 rfl) (fun y h2 hy => ?_)
    simp (maxSteps := 1000000) -implicitDefEqProofs only [push_cast, seval]
    exact hy
  rw [if_neg (by rw [hat]; simpa using h36)]
  by_cases h46 : (byteAt s k).toNat = 46
  · rw [if_pos (by rw [hat, h46]; rfl)]
    refine CC.ofN Try.func183 Try.ntmps183 Try.results183 rfl (by decide) (by kernel_rfl) ?_
    simp (maxSteps := 1000000) -implicitDefEqProofs only [push_cast, seval]
    refine WC.draw' (by kernel_rfl) (by kernel_rfl) (.q 0 (.q 1 (.q 2 (.q 3 (.q 4 (.q 5 (.q 6 (.q 7 (.q 8 (.q 9 (.q 10 (.q 11 (.q 12 (.q 13 (.q 14 (.q 15 (.done))))))))))))))))) (by kernel_rfl) ?_
    simp (maxSteps := 1000000) -implicitDefEqProofs only [push_cast, seval, e, rd_of e, rd1_of e, hp]
    with_reducible refine bcase_d (fun hb => ?_) (fun hb => ?_)
    · exfalso; omega
    simp (maxSteps := 1000000) -implicitDefEqProofs only [push_cast, seval, e, rd_of e, rd1_of e, hp]
    refine WC.draw' (by kernel_rfl) (by kernel_rfl) (.q 0 (.q 1 (.q 2 (.q 3 (.q 4 (.q 5 (.q 6 (.q 7 (.q 8 (.q 9 (.done))))))))))) (by kernel_rfl) ?_
    simp (maxSteps := 1000000) -implicitDefEqProofs only [push_cast, seval, e, rd_of e, rd1_of e, hp]
    repeat (with_reducible refine And.intro ?_ ?_; · (first | omega | decide))
    simp (maxSteps := 1000000) -implicitDefEqProofs only [push_cast, seval, e, rd_of e, rd1_of e, hp, h46, w0]
    with_reducible refine CC.mono (leaf 2 2 rfl) (fun y h2 hy => ?_)
    simp (maxSteps := 1000000) -implicitDefEqProofs only [push_cast, seval]
    exact hy
  rw [if_neg (by rw [hat]; simpa using h46)]
  by_cases h91 : (byteAt s k).toNat = 91
  · rw [if_pos (by rw [hat, h91]; rfl)]
    refine CC.ofN Try.func183 Try.ntmps183 Try.results183 rfl (by decide) (by kernel_rfl) ?_
    simp (maxSteps := 1000000) -implicitDefEqProofs only [push_cast, seval]
    refine WC.draw' (by kernel_rfl) (by kernel_rfl) (.q 0 (.q 1 (.q 2 (.q 3 (.q 4 (.q 5 (.q 6 (.q 7 (.q 8 (.q 9 (.q 10 (.q 11 (.q 12 (.q 13 (.q 14 (.q 15 (.done))))))))))))))))) (by kernel_rfl) ?_
    simp (maxSteps := 1000000) -implicitDefEqProofs only [push_cast, seval, e, rd_of e, rd1_of e, hp]
    with_reducible refine bcase_d (fun hb => ?_) (fun hb => ?_)
    · exfalso; omega
    simp (maxSteps := 1000000) -implicitDefEqProofs only [push_cast, seval, e, rd_of e, rd1_of e, hp]
    refine WC.draw' (by kernel_rfl) (by kernel_rfl) (.q 0 (.q 1 (.q 2 (.q 3 (.q 4 (.q 5 (.q 6 (.q 7 (.q 8 (.q 9 (.done))))))))))) (by kernel_rfl) ?_
    simp (maxSteps := 1000000) -implicitDefEqProofs only [push_cast, seval, e, rd_of e, rd1_of e, hp]
    repeat (with_reducible refine And.intro ?_ ?_; · (first | omega | decide))
    simp (maxSteps := 1000000) -implicitDefEqProofs only [push_cast, seval, e, rd_of e, rd1_of e, hp, h91, w0]
    have hset := set_s n0 p s k out h hs G hkl hj
    rw [← ek1] at hset
    with_reducible refine CC.mono hset (fun y h2 hy => ?_)
    simp (maxSteps := 1000000) -implicitDefEqProofs only [push_cast, seval]
    exact hy
  rw [if_neg (by rw [hat]; simpa using h91)]
  by_cases h40 : (byteAt s k).toNat = 40
  · rw [if_pos (by rw [hat, h40]; rfl)]
    have hA := ha n0 p k1 out _ (by omega) (hR k1 (by omega)) (by omega)
    have hb0 := fun k' o' r => hg k1 out k' o' r (by omega)
    simp only [cS] at hA
    generalize alt k1 out = res at *
    refine CC.ofN Try.func183 Try.ntmps183 Try.results183 rfl (by decide) (by kernel_rfl) ?_
    simp (maxSteps := 1000000) -implicitDefEqProofs only [push_cast, seval]
    refine WC.draw' (by kernel_rfl) (by kernel_rfl) (.q 0 (.q 1 (.q 2 (.q 3 (.q 4 (.q 5 (.q 6 (.q 7 (.q 8 (.q 9 (.q 10 (.q 11 (.q 12 (.q 13 (.q 14 (.q 15 (.done))))))))))))))))) (by kernel_rfl) ?_
    simp (maxSteps := 1000000) -implicitDefEqProofs only [push_cast, seval, e, rd_of e, rd1_of e, hp]
    with_reducible refine bcase_d (fun hb => ?_) (fun hb => ?_)
    · exfalso; omega
    simp (maxSteps := 1000000) -implicitDefEqProofs only [push_cast, seval, e, rd_of e, rd1_of e, hp]
    refine WC.draw' (by kernel_rfl) (by kernel_rfl) (.q 0 (.q 1 (.q 2 (.q 3 (.q 4 (.q 5 (.q 6 (.q 7 (.q 8 (.q 9 (.done))))))))))) (by kernel_rfl) ?_
    simp (maxSteps := 1000000) -implicitDefEqProofs only [push_cast, seval, e, rd_of e, rd1_of e, hp]
    repeat (with_reducible refine And.intro ?_ ?_; · (first | omega | decide))
    simp (maxSteps := 1000000) -implicitDefEqProofs only [push_cast, seval, e, rd_of e, rd1_of e, hp, h40, w0]
    with_reducible refine CC.mono hA (fun y h1 hy => ?_)
    clear hA
    with_reducible refine hy.cases (fun k2 o2 r2 er ey f2 G2 => ?_) (fun er r2 ey f2 B2 => ?_)
    · clear hy
      subst ey er
      have hb1 := (hb0 _ _ _ rfl).pot
      have hl1 := (hb0 _ _ _ rfl).le
      have hp1 := G2.lt
      have hk2 := G2.hi
      with_reducible refine G2.cell (fun v2 L2 e2 w2 hL2 hl2 => ?_)
      have hI := is_s p s k2 false v2 41 41 rfl h1 e2 hp1 hs
      simp only [cS] at e2
      simp only [pClose]
      simp (maxSteps := 1000000) -implicitDefEqProofs only [push_cast, seval]
      with_reducible refine CD.to hI ?_
      clear hI
      cases hc : isAt s k2 41 with
      | true =>
        have hlt := isAt_lt hc
        obtain ⟨k3, ek3⟩ : ∃ k3, k3 = k2 + 1 := ⟨_, rfl⟩
        have w3 : IntKind.i64.wrap ((k2 : Int) + 1) = (k3 : Int) := by rw [wrapSucc (by omega), ek3]
        rw [← ek3]
        simp (maxSteps := 1000000) -implicitDefEqProofs only [push_cast, seval, e2, rd_of e2, rd1_of e2, hp1, w3]
        refine Ro.some (((fr _).trans f2).set hn _) ?_
        rw [← hL2]
        exact Rg.at hp1 hn w2 (by omega)
      | false =>
        simp (maxSteps := 1000000) -implicitDefEqProofs only [push_cast, seval, e2, rd_of e2, rd1_of e2, hp1]
        exact Ro.none (((fr _).trans f2).set hn _) (Rb.atP hp1 hn w2 (by omega) hk2)
    · clear hy
      subst ey er
      have hp1 := B2.lt
      with_reducible refine B2.cell (fun k2 v2 cs j a e2 g d c f => ?_)
      have hI := is_s p s k2 true v2 41 41 rfl h1 e2 hp1 hs
      simp only [cS] at e2
      simp (maxSteps := 1000000) -implicitDefEqProofs only [push_cast, seval]
      with_reducible refine CD.to hI ?_
      simp (maxSteps := 1000000) -implicitDefEqProofs only [push_cast, seval, e2, rd_of e2, rd1_of e2, hp1]
      exact Ro.none (((fr _).trans f2).set hn _) (Rb.at hp1 hn g d (by omega) f a)
  rw [if_neg (by rw [hat]; simpa using h40)]
  have single : ∀ (b : Nat) (b1 : Nat), b < s.size → b1 = b + 1 → k ≤ b → ∀ o, CC Try.prog 102 [.pointer (some ⟨p, 0, none⟩), .agg #[.int .i64 1, .string ⟨#[UInt8.ofNat (byteAt s b).toNat]⟩, .slice none 0 0]] ((h.set p (.cells [.string s, .int .i64 (b1 : Nat), .bool false, v] .solo p)).alloc o) (Ro (cS s) s n0 p h (out.length + 2 * (s.size - k)) (some (b + 1, out ++ [⟨1, s.extract b (b + 1), []⟩], out.length))) := fun b b1 hb eb hkb o => by
    subst eb
    rw [ext_one s b hb]
    exact CC.mono (putNs n0 p s (b + 1) out 1 1 rfl _ _ ((hR (b + 1) (by omega)).pre ((Pre.refl _).alloc _)) (by omega)) (fun y h2 hy => by rw [hy.1]; exact Ro.some (((fr _).trans ((Fr.refl _ _).alloc (by show n0 ≤ h.n; omega) _)).trans hy.2.1) hy.2.2)
  by_cases h92 : (byteAt s k).toNat = 92
  · have h92' : isAt s k 92 = true := by rw [hat, h92]; rfl
    have hB := fun b (hb : b < s.size) h => l04Special_c (byteAt s b).toNat (by have := (byteAt s b).toNat_lt; omega) h
    have eP : pSingle s k out = (if k1 < s.size ∧ special (byteAt s k1).toNat = true then some (k1 + 1, out ++ [⟨1, s.extract k1 (k1 + 1), []⟩], out.length) else none) := by
      unfold pSingle
      simp only [h92', if_true, ek1]
      exact ite_congr (propext (and_congr Iff.rfl ⟨Eq.symm, Eq.symm⟩)) (fun _ => rfl) (fun _ => rfl)
    rw [eP]
    refine CC.ofN Try.func183 Try.ntmps183 Try.results183 rfl (by decide) (by kernel_rfl) ?_
    simp (maxSteps := 1000000) -implicitDefEqProofs only [push_cast, seval]
    refine WC.draw' (by kernel_rfl) (by kernel_rfl) (.q 0 (.q 1 (.q 2 (.q 3 (.q 4 (.q 5 (.q 6 (.q 7 (.q 8 (.q 9 (.q 10 (.q 11 (.q 12 (.q 13 (.q 14 (.q 15 (.done))))))))))))))))) (by kernel_rfl) ?_
    simp (maxSteps := 1000000) -implicitDefEqProofs only [push_cast, seval, e, rd_of e, rd1_of e, hp]
    with_reducible refine bcase_d (fun hb => ?_) (fun hb => ?_)
    · exfalso; omega
    simp (maxSteps := 1000000) -implicitDefEqProofs only [push_cast, seval, e, rd_of e, rd1_of e, hp]
    refine WC.draw' (by kernel_rfl) (by kernel_rfl) (.q 0 (.q 1 (.q 2 (.q 3 (.q 4 (.q 5 (.q 6 (.q 7 (.q 8 (.q 9 (.done))))))))))) (by kernel_rfl) ?_
    simp (maxSteps := 1000000) -implicitDefEqProofs only [push_cast, seval, e, rd_of e, rd1_of e, hp]
    repeat (with_reducible refine And.intro ?_ ?_; · (first | omega | decide))
    simp (maxSteps := 1000000) -implicitDefEqProofs only [push_cast, seval, e, rd_of e, rd1_of e, hp, h92, w0]
    refine WC.draw' (by kernel_rfl) (by kernel_rfl) (.q 0 (.q 1 (.q 2 (.q 3 (.q 4 (.q 5 (.q 6 (.q 7 (.q 8 (.q 9 (.q 10 (.q 11 (.q 12 (.q 13 (.q 14 (.q 15 (.q 16 (.q 17 (.q 18 (.q 19 (.c 20 (.q 21 (.q 22 (.done)))))))))))))))))))))))) (by kernel_rfl) ?_
    simp (maxSteps := 1000000) -implicitDefEqProofs only [push_cast, seval, e, rd_of e, rd1_of e, hp, h92, w0]
    with_reducible refine bcase_d (fun hb => ?_) (fun hb => ?_)
    · rw [if_neg (by omega)]
      simp (maxSteps := 1000000) -implicitDefEqProofs only [push_cast, seval, e, rd_of e, rd1_of e, hp, h92, w0]
      exact bad k1 (by omega) 0
    · have hk1 : k1 < s.size := by omega
      obtain ⟨k2, ek2⟩ : ∃ k2, k2 = k1 + 1 := ⟨_, rfl⟩
      have w2 : IntKind.i64.wrap ((k1 : Int) + 1) = (k2 : Int) := by rw [wrapSucc (by omega), ek2]
      have hs1 := single k1 k2 hk1 ek2 (by omega)
      simp (maxSteps := 1000000) -implicitDefEqProofs only [push_cast, seval, e, rd_of e, rd1_of e, hp, h92, w0]
      repeat (with_reducible refine And.intro ?_ ?_; · (first | omega | decide))
      refine CQ.pure (fun h' => hB k1 hk1 h') ?_
      cases hsp : special (byteAt s k1).toNat with
      | true =>
        rw [if_pos ⟨hk1, rfl⟩]
        simp (maxSteps := 1000000) -implicitDefEqProofs only [push_cast, seval, e, rd_of e, rd1_of e, hp, h92, w0]
        refine WC.draw' (by kernel_rfl) (by kernel_rfl) (.q 0 (.q 1 (.q 2 (.q 3 (.q 4 (.q 5 (.q 6 (.q 7 (.q 8 (.q 9 (.done))))))))))) (by kernel_rfl) ?_
        simp (maxSteps := 1000000) -implicitDefEqProofs only [push_cast, seval, e, rd_of e, rd1_of e, hp, h92, w0, w2]
        repeat (with_reducible refine And.intro ?_ ?_; · (first | omega | decide))
        with_reducible refine CC.mono (hs1 _) (fun y h2 hy => ?_)
        simp (maxSteps := 1000000) -implicitDefEqProofs only [push_cast, seval]
        exact hy
      | false =>
        rw [if_neg (by simp)]
        simp (maxSteps := 1000000) -implicitDefEqProofs only [push_cast, seval, e, rd_of e, rd1_of e, hp, h92, w0]
        exact bad k1 (by omega) 0
  have h92' : isAt s k 92 = false := by rw [hat]; simpa using h92
  have eP : pSingle s k out = (if special (byteAt s k).toNat = false then some (k + 1, out ++ [⟨1, s.extract k (k + 1), []⟩], out.length) else none) := by
    unfold pSingle
    simp only [h92', Bool.false_eq_true, if_false]
    exact ite_congr (propext ⟨fun e => e.2.symm, fun e => ⟨hkl, e.symm⟩⟩) (fun _ => rfl) (fun _ => rfl)
  rw [eP]
  have hB := fun h => l04Special_c (byteAt s k).toNat (by have := (byteAt s k).toNat_lt; omega) h
  have hs1 := single k k1 hkl ek1 (Nat.le_refl _)
  have n94 : (((byteAt s k).toNat : Int) = 94) = False := eq_false (by omega)
  have n36 : (((byteAt s k).toNat : Int) = 36) = False := eq_false (by omega)
  have n46 : (((byteAt s k).toNat : Int) = 46) = False := eq_false (by omega)
  have n91 : (((byteAt s k).toNat : Int) = 91) = False := eq_false (by omega)
  have n40 : (((byteAt s k).toNat : Int) = 40) = False := eq_false (by omega)
  have n92 : (((byteAt s k).toNat : Int) = 92) = False := eq_false (by omega)
  refine CC.ofN Try.func183 Try.ntmps183 Try.results183 rfl (by decide) (by kernel_rfl) ?_
  simp (maxSteps := 1000000) -implicitDefEqProofs only [push_cast, seval]
  refine WC.draw' (by kernel_rfl) (by kernel_rfl) (.q 0 (.q 1 (.q 2 (.q 3 (.q 4 (.q 5 (.q 6 (.q 7 (.q 8 (.q 9 (.q 10 (.q 11 (.q 12 (.q 13 (.q 14 (.q 15 (.done))))))))))))))))) (by kernel_rfl) ?_
  simp (maxSteps := 1000000) -implicitDefEqProofs only [push_cast, seval, e, rd_of e, rd1_of e, hp]
  with_reducible refine bcase_d (fun hb => ?_) (fun hb => ?_)
  · exfalso; omega
  simp (maxSteps := 1000000) -implicitDefEqProofs only [push_cast, seval, e, rd_of e, rd1_of e, hp]
  refine WC.draw' (by kernel_rfl) (by kernel_rfl) (.q 0 (.q 1 (.q 2 (.q 3 (.q 4 (.q 5 (.q 6 (.q 7 (.q 8 (.q 9 (.done))))))))))) (by kernel_rfl) ?_
  simp (maxSteps := 1000000) -implicitDefEqProofs only [push_cast, seval, e, rd_of e, rd1_of e, hp]
  repeat (with_reducible refine And.intro ?_ ?_; · (first | omega | decide))
  simp (maxSteps := 1000000) -implicitDefEqProofs only [push_cast, seval, e, rd_of e, rd1_of e, hp, n94, n36, n46, n91, n40, n92, w0]
  with_reducible refine CD.to (hB _) ?_
  cases hsp : special (byteAt s k).toNat with
  | true =>
    rw [if_neg (by simp)]
    simp (maxSteps := 1000000) -implicitDefEqProofs only [push_cast, seval, e, rd_of e, rd1_of e, hp, w0]
    exact bad k hk 0
  | false =>
    rw [if_pos rfl]
    simp (maxSteps := 1000000) -implicitDefEqProofs only [push_cast, seval, e, rd_of e, rd1_of e, hp, w0]
    with_reducible refine CC.mono (hs1 _) (fun y h2 hy => ?_)
    simp (maxSteps := 1000000) -implicitDefEqProofs only [push_cast, seval]
    exact hy
end Go.Proofs.Ytciajhpeikemoaa
