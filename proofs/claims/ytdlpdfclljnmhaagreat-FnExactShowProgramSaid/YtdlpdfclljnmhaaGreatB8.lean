/- Parts of the proof of the row: the ground, contracts of the functions that it reaches (S7, S8, S9, S10, S11). Conditions: those that each theorem names. -/
import Derived.Test.YtdlpdfclljnmhaaGreatB7
namespace Go.Proofs.YtdlpdfclljnmhaaGreat
open Go Go.Sim Go.Proofs
set_option linter.unusedSimpArgs false
set_option linter.unusedVariables false
set_option maxRecDepth 100000
set_option maxHeartbeats 1000000
variable {vN vR : Value} {L : List (Nd × Value)} {R : List Ru} {h h1 h2 h' : AH}
def ShP (fid p : Nat) (vN vR : Value) (L : List (Nd × Value)) (R : List Ru) (k : Nat) (T : ByteArray) : Prop :=
  ∀ (h : AH), Pb h p vN vR L R → CD Tryz.prog fid [.pointer (some ⟨p, 0, none⟩), .int .i64 (k : Nat)] h (.string T) h
theorem Pb.look {p : Nat} (b : Pb h p vN vR L R) (big : Big h') (e : ∀ i ∈ p :: progIds vN vR L, h'.ob i = h.ob i) : Pb h' p vN vR L R := by
  have eo := (e p (List.mem_cons_self ..)).trans b.ob
  refine ⟨eo, ?_, b.rd.look big (fun i hi => e i (List.mem_cons_of_mem _ hi))⟩
  by_cases q : p < h'.n
  · exact q
  · have := big p (by omega)
    rw [eo] at this
    cases this
theorem ShP.look {fid p k : Nat} {T : ByteArray} (s : ShP fid p vN vR L R k T) (r : Pb h p vN vR L R) : ∀ h' : AH, (∀ id ∈ p :: progIds vN vR L, h'.ob id = h.ob id) → CD Tryz.prog fid [.pointer (some ⟨p, 0, none⟩), .int .i64 (k : Nat)] h' (.string T) h' :=
  fun h' e => CD.withBig fun big => s h' (r.look big e)
theorem flat_str : ∀ xs : List ByteArray, (xs.map encTx).flatten = xs.map Value.string
  | [] => rfl
  | a :: l => by rw [List.map_cons, List.flatten_cons, List.map_cons, flat_str l]; rfl
/-- Texts of a call's own, joined. -/
theorem join_own {n0 : Nat} {xs : List ByteArray} {sep : ByteArray} {v : Value} {h : AH} (g : Gr n0 h v 1 ((xs.map encTx).flatten)) (h0 : 0 < xs.length) (hN : xs.length ≤ 1000) (hz : (jB sep xs).size ≤ 140737488355328) :
    CD Tryz.prog 67 [v, .string sep] h (.string (jB sep xs)) h := by
  have fl := flat_str xs
  rcases g with ⟨c, rfl, e⟩ | ⟨id, off, n, rfl, b, o⟩
  · rw [fl] at e
    have := congrArg List.length e
    rw [List.length_map, List.length_nil] at this
    omega
  · rw [fl] at o
    have hn : n = xs.length := by have := o.len; rw [List.length_map] at this; omega
    subst hn
    exact CD.join (by kernel_rfl) rfl lays156 builderX id off xs sep h0 (by omega) (by rw [jB_len]; exact hz) o
theorem shownSt_i (hok : programOk ⟨L.map Prod.fst, R⟩ = true) (ht : ∀ x ∈ L, x.1.text.size ≤ 1048576) (p : Nat) : ∀ k, k < L.length → isEx (nd (L.map Prod.fst) k).op = false → ∀ f, k < f → cnt (L.map Prod.fst) f k ≤ 2001 → ShP 36 p vN vR L R k (shS (L.map Prod.fst) f k) := by
  have okG := OkG.of hok
  intro k
  induction k using Nat.strongRecOn with
  | ind k ih =>
  intro hk hx0 f hf hc
  obtain ⟨g, rfl⟩ : ∃ g, f = g + 1 := ⟨f - 1, by omega⟩
  have ihg : ∀ j, j < k → isEx (nd (L.map Prod.fst) j).op = false → cnt (L.map Prod.fst) g j ≤ 2001 → ShP 36 p vN vR L R j (shS (L.map Prod.fst) g j) := fun j hj he hc => ih j hj (by omega) he g (by omega) hc
  have hL := okG.n
  have klen := okG.klen k hk
  have okN := OkN.of hok hk
  have ek := ExK.of okN
  have hN : nd (L.map Prod.fst) k = L[k].1 := getD_map L k hk
  have szk := fun j (hj : j < k) (he : isEx (nd (L.map Prod.fst) j).op = true) => shE_size hok ht j (by omega) he g (by omega)
  have kcn := fun i j hi e => kid_cnt (g := g) (i := i) (j := j) hN hi e
  rw [hN] at hx0
  have sk := StK.of okN
  have op := okN.op
  simp only [inB, Bool.and_eq_true, decide_eq_true_eq] at op
  have hx0 : ¬ (1 ≤ L[k].1.op ∧ L[k].1.op ≤ 16) := fun e => by rw [(isEx_iff _).2 e] at hx0; cases hx0
  have EX : ∀ j, j < k → isEx (nd (L.map Prod.fst) j).op = true → cnt (L.map Prod.fst) g j ≤ 2001 → ShP 35 p vN vR L R j (shE (L.map Prod.fst) g j) := fun j hj he hc => shown_i (vN := vN) (vR := vR) hok ht p j (by omega) he g (by omega) hc
  have szs := fun j (hj : j < k) (he : isEx (nd (L.map Prod.fst) j).op = false) => shS_size hok ht j (by omega) he g (by omega)
  unfold ShP
  intro h c
  refine CD.quiet ?_ (low_string _ _)
  have pt := c.ob
  have lt := c.lt
  have y1 := c.rd.nodes.one
  obtain ⟨iN, oN, qN, eN, lN, rN⟩ := c.rd.nodes.el (fun _ => rfl) hk
  simp only [encD] at rN
  have r0 := (rd_3 rN).1
  have r1 := (rd_3 rN).2.1
  have r2 := (rd_3 rN).2.2
  have hx : (L[k].1, L[k].2) ∈ L := List.getElem_mem hk
  have u1 := (c.rd.kids _ hx).one
  have tx := ht _ hx
  simp only at tx
  generalize L[k].1 = x at *
  generalize L[k].2 = kv at *
  have p0 : Pre h ((h.alloc (.cells [.int .i64 0, .string ⟨#[]⟩, .slice none 0 0] .solo h.n)).set h.n (.cells [.int .i64 x.op, .string x.text, kv] .solo h.n)) := ((Pre.refl h).alloc _).set (Nat.le_refl _) _
  have b1 : ((h.alloc (.cells [.int .i64 0, .string ⟨#[]⟩, .slice none 0 0] .solo h.n)).set h.n (.cells [.int .i64 x.op, .string x.text, kv] .solo h.n)).ob h.n = .cells [.int .i64 x.op, .string x.text, kv] .solo h.n := set_same _ _
  have n1 : ((h.alloc (.cells [.int .i64 0, .string ⟨#[]⟩, .slice none 0 0] .solo h.n)).set h.n (.cells [.int .i64 x.op, .string x.text, kv] .solo h.n)).n = h.n + 1 := rfl
  have kr := (c.rd.kids _ hx).rde (fun _ => rfl)
  obtain ⟨Ak, ck, ekv, _⟩ := kr
  have ekv : kv = .slice Ak x.kids.length ck := ekv
  refine CC.ofN Tryz.func36 Tryz.ntmps36 Tryz.results36 rfl (by decide) (by kernel_rfl) ?_
  subst eN
  simp (maxSteps := 1000000) -implicitDefEqProofs only [push_cast, seval, pt, rd_of pt, rd1_of pt, lt, y1, lN, rN, r0, r1, r2, u1]
  repeat (with_reducible refine And.intro ?_ ?_; · (first | omega | decide))
  generalize ((h.alloc (.cells [.int .i64 0, .string ⟨#[]⟩, .slice none 0 0] .solo h.n)).set h.n (.cells [.int .i64 x.op, .string x.text, kv] .solo h.n)) = h1 at *
  have l1 : h.n < h1.n := by omega
  have c2 := c.pre p0
  have kp := p0.keep
  have ls := lit_sizes
  have eS := shS_eq (f := g) hN
  simp only at eS
  simp (maxSteps := 1000000) -implicitDefEqProofs only [push_cast, seval, b1, rd_of b1, rd1_of b1, l1, u1]
  with_reducible refine bcase_d (fun o17 => ?_) (fun o17 => ?_)
  · rw [if_pos o17] at eS
    rw [eS]
    have sp := sk.p o17
    have spl := sp.1
    subst ekv
    simp (maxSteps := 1000000) -implicitDefEqProofs only [push_cast, seval, b1, rd_of b1, rd1_of b1, l1, u1]
    have g0 : Gr h1.n (h1.alloc (.cells [] .solo h1.n)) (.slice (some ⟨h1.n, 0, none⟩) 0 1) 1 ((((x.kids.take 0).map fun a => shE (L.map Prod.fst) g a.toNat).map encTx).flatten) := Gr.new (Nat.le_refl _) [] 0 1 rfl
    refine WC.loopA (by kernel_rfl) [6, 28] [8, 29, 30, 31, 32, 33, 34, 35, 36, 37, 38] (fun a : Nat × Value => [a.2, .int .i64 (a.1 : Nat)]) (fun a h' => a.1 ≤ x.kids.length ∧ Gr h1.n h' a.2 1 ((((x.kids.take a.1).map fun a => shE (L.map Prod.fst) g a.toNat).map encTx).flatten) ∧ Pre h1 h') (fun a => x.kids.length - a.1) (0, .slice (some ⟨h1.n, 0, none⟩) 0 1) (by kernel_rfl) ⟨Nat.zero_le _, g0, (Pre.refl _).alloc _⟩ ?_
    clear g0
    intro a gg h2 hJ
    obtain ⟨i, v⟩ := a
    have hi := hJ.1
    have g2 := hJ.2.1
    have p2 := hJ.2.2
    clear hJ
    simp only at hi g2
    have b2 := (p2.ob _ l1).trans b1
    have l2 : h.n < h2.n := Nat.lt_of_lt_of_le l1 p2.n
    have c3 := c2.pre p2
    simp (maxSteps := 1000000) -implicitDefEqProofs only [push_cast, seval, b2, rd_of b2, rd1_of b2, l2]
    with_reducible refine bcase_d (fun hb => ?_) (fun hb => ?_)
    · have hi' : i < x.kids.length := by omega
      have kk := sp.2 i hi'
      with_reducible refine Exists.elim kk (fun j kk => ?_)
      have ej := kk.1
      have lj := kk.2.1
      have cj := kcn i j hi' ej
      have fs := strs_succ (F := shE (L.map Prod.fst) g) hi' ej
      have Ej := EX j lj kk.2.2 (by omega)
      unfold ShP at Ej
      have z0 := kid_p c3 hx hi' ej
      with_reducible refine Exists.elim z0 (fun id z0 => ?_)
      with_reducible refine Exists.elim z0 (fun off z0 => ?_)
      with_reducible refine Exists.elim z0 (fun q z0 => ?_)
      have ekv := z0.1
      injection ekv with ekv _ _
      subst ekv
      have lid := z0.2.1
      have rk := z0.2.2
      clear z0
      simp (maxSteps := 1000000) -implicitDefEqProofs only [push_cast, seval, b2, rd_of b2, rd1_of b2, l2, rk, lid]
      repeat (with_reducible refine And.intro ?_ ?_; · (first | omega | decide))
      with_reducible refine CD.to (Ej h2 c3) ?_
      simp (maxSteps := 1000000) -implicitDefEqProofs only [push_cast, seval]
      have xl : ((((x.kids.take i).map fun a => shE (L.map Prod.fst) g a.toNat).map encTx).flatten).length = i * 1 := by
        rw [flat_len (k := 1) _ (fun _ => rfl), List.length_map, List.length_take]; congr 1; omega
      refine Gr.app1 (h0 := h1) si37 (by decide) (by decide) (notInt_sl und37) g2 p2 rfl (by rw [xl]; omega) (by decide) (fun h3 gr ow p3 n3 he => ?_)
      have el : ((((x.kids.take i).map fun a => shE (L.map Prod.fst) g a.toNat).map encTx).flatten).length / 1 + 1 = i + 1 := by rw [xl]; omega
      rw [el] at gr ⊢
      simp (maxSteps := 1000000) -implicitDefEqProofs only [push_cast, seval]
      rw [wrapSucc (by omega)]
      have g3 : Gr h1.n h3 (.slice (some ⟨h2.n + 1, 0, none⟩) (i + 1) 1) 1 ((((x.kids.take (i + 1)).map fun a => shE (L.map Prod.fst) g a.toNat).map encTx).flatten) := by
        rw [fs, List.map_append, List.flatten_append]; exact gr
      refine ⟨(i + 1, .slice (some ⟨h2.n + 1, 0, none⟩) (i + 1) 1), by kernel_rfl, ⟨by show i + 1 ≤ _; omega, g3, p3⟩, by show _ - (i + 1) < _ - i; omega⟩
    have ei : i = x.kids.length := by omega
    rw [ei, List.take_length] at g2
    have jb := jB_size (⟨#[44, 32]⟩ : ByteArray) (x.kids.map fun a => shE (L.map Prod.fst) g a.toNat)
    rw [List.map_map, List.length_map] at jb
    have sb := sum_bound (ByteArray.size ∘ fun a : Int => shE (L.map Prod.fst) g a.toNat) (fun a : Int => cnt (L.map Prod.fst) g a.toNat) 1048640 x.kids (fun a ha => by
      obtain ⟨i, hi, e⟩ := kid_mem ha
      obtain ⟨m, e2, lm, xm⟩ := sp.2 i hi
      rw [e] at e2
      subst e2
      exact (szk m lm xm).1)
    have hc1 : (x.kids.map fun a : Int => cnt (L.map Prod.fst) g a.toNat).sum ≤ 2001 := by
      have : 1 + ((nd (L.map Prod.fst) k).kids.map fun a : Int => cnt (L.map Prod.fst) g a.toNat).sum ≤ 2001 := hc
      rw [hN] at this
      omega
    have z1 : ((⟨#[44, 32]⟩ : ByteArray)).size = 2 := rfl
    rw [z1] at jb
    have hzj : (jB (⟨#[44, 32]⟩ : ByteArray) (x.kids.map fun a => shE (L.map Prod.fst) g a.toNat)).size ≤ 140737488355328 := by
      have := Nat.mul_le_mul_left 1048640 hc1
      omega
    have kp2 : Keep h.n h h2 := (p0.trans p2).keep
    have lm : (x.kids.map fun a => shE (L.map Prod.fst) g a.toNat).length = x.kids.length := by rw [List.length_map]
    have hJ := join_own g2 (sep := (⟨#[44, 32]⟩ : ByteArray)) (by omega) (by omega) hzj
    simp (maxSteps := 1000000) -implicitDefEqProofs only [push_cast, seval, b2, rd_of b2, rd1_of b2, l2]
    with_reducible refine CD.to hJ ?_
    simp (maxSteps := 1000000) -implicitDefEqProofs only [push_cast, seval]
    repeat (with_reducible refine And.intro (by first | omega | (simp only [ByteArray.size_append]; omega)) ?_)
    exact kp2
  rw [if_neg o17] at eS
  simp (maxSteps := 1000000) -implicitDefEqProofs only [push_cast, seval, b1, rd_of b1, rd1_of b1, l1]
  with_reducible refine bcase_d (fun o18 => ?_) (fun o18 => ?_)
  · rw [if_pos o18] at eS
    rw [eS]
    have k1 := ek.a (by omega)
    with_reducible refine Exists.elim k1 (fun pk k1 => ?_)
    have ek1 := k1.1
    have cs := kcn 0 pk (by rw [ek1]; exact Nat.one_pos) (by rw [ek1]; rfl)
    have zA := (szk pk k1.2.1 k1.2.2).1
    have zA' : (shE (L.map Prod.fst) g pk).size ≤ 1048640 * 2001 := Nat.le_trans zA (Nat.mul_le_mul_left _ (by omega))
    have kr1 := kid_p c2 hx (a := 0) (by rw [ek1]; exact Nat.one_pos) (k := pk) (by rw [ek1]; rfl)
    have kz := kidN'_0 ek1
    have Ep := EX pk k1.2.1 k1.2.2 (by omega)
    have xl : x.kids.length = 1 := by rw [ek1]; rfl
    with_reducible refine Exists.elim kr1 (fun ia kr1 => ?_)
    with_reducible refine Exists.elim kr1 (fun oa kr1 => ?_)
    with_reducible refine Exists.elim kr1 (fun ca kr1 => ?_)
    have ev := kr1.1
    have la := kr1.2.1
    have ra := kr1.2.2
    clear kr1
    rw [Nat.zero_mul, Nat.add_zero] at ra
    subst ev
    simp (maxSteps := 1000000) -implicitDefEqProofs only [push_cast, seval]
    refine WC.draw' (by kernel_rfl) (by kernel_rfl) (.q 0 (.q 1 (.q 2 (.q 3 (.q 4 (.q 5 (.q 6 (.q 7 (.c 8 (.q 9 (.q 10 (.done)))))))))))) (by kernel_rfl) ?_
    simp (maxSteps := 1000000) -implicitDefEqProofs only [push_cast, seval, b1, rd_of b1, rd1_of b1, l1, la, ra, u1, xl]
    repeat (with_reducible refine And.intro ?_ ?_; · (first | omega | decide))
    with_reducible refine CQ.look _ (ShP.look Ep c2) ?_
    simp (maxSteps := 1000000) -implicitDefEqProofs only [push_cast, seval, b1, rd_of b1, rd1_of b1, l1, la, ra, u1, xl]
    repeat (with_reducible refine And.intro (by first | omega | (simp only [ByteArray.size_append]; omega)) ?_)
    refine ⟨?_, kp⟩
    rw [kz]
  rw [if_neg o18] at eS
  simp (maxSteps := 1000000) -implicitDefEqProofs only [push_cast, seval, b1, rd_of b1, rd1_of b1, l1]
  with_reducible refine bcase_d (fun o19 => ?_) (fun o19 => ?_)
  · rw [if_pos o19] at eS
    rw [eS]
    have k1 := ek.a (by omega)
    with_reducible refine Exists.elim k1 (fun pk k1 => ?_)
    have ek1 := k1.1
    have cs := kcn 0 pk (by rw [ek1]; exact Nat.one_pos) (by rw [ek1]; rfl)
    have zA := (szk pk k1.2.1 k1.2.2).1
    have zA' : (shE (L.map Prod.fst) g pk).size ≤ 1048640 * 2001 := Nat.le_trans zA (Nat.mul_le_mul_left _ (by omega))
    have kr1 := kid_p c2 hx (a := 0) (by rw [ek1]; exact Nat.one_pos) (k := pk) (by rw [ek1]; rfl)
    have kz := kidN'_0 ek1
    have Ep := EX pk k1.2.1 k1.2.2 (by omega)
    have xl : x.kids.length = 1 := by rw [ek1]; rfl
    with_reducible refine Exists.elim kr1 (fun ia kr1 => ?_)
    with_reducible refine Exists.elim kr1 (fun oa kr1 => ?_)
    with_reducible refine Exists.elim kr1 (fun ca kr1 => ?_)
    have ev := kr1.1
    have la := kr1.2.1
    have ra := kr1.2.2
    clear kr1
    rw [Nat.zero_mul, Nat.add_zero] at ra
    subst ev
    simp (maxSteps := 1000000) -implicitDefEqProofs only [push_cast, seval]
    refine WC.draw' (by kernel_rfl) (by kernel_rfl) (.q 0 (.q 1 (.q 2 (.q 3 (.q 4 (.q 5 (.q 6 (.q 7 (.c 8 (.q 9 (.q 10 (.done)))))))))))) (by kernel_rfl) ?_
    simp (maxSteps := 1000000) -implicitDefEqProofs only [push_cast, seval, b1, rd_of b1, rd1_of b1, l1, la, ra, u1, xl]
    repeat (with_reducible refine And.intro ?_ ?_; · (first | omega | decide))
    with_reducible refine CQ.look _ (ShP.look Ep c2) ?_
    simp (maxSteps := 1000000) -implicitDefEqProofs only [push_cast, seval, b1, rd_of b1, rd1_of b1, l1, la, ra, u1, xl]
    repeat (with_reducible refine And.intro (by first | omega | (simp only [ByteArray.size_append]; omega)) ?_)
    refine ⟨?_, kp⟩
    rw [kz]
  rw [if_neg o19] at eS
  simp (maxSteps := 1000000) -implicitDefEqProofs only [push_cast, seval, b1, rd_of b1, rd1_of b1, l1]
  with_reducible refine bcase_d (fun o20 => ?_) (fun o20 => ?_)
  · rw [if_pos o20] at eS
    rw [eS]
    have k2 := ek.b (by omega)
    with_reducible refine Exists.elim k2 (fun pk k2 => ?_)
    with_reducible refine Exists.elim k2 (fun qk k2 => ?_)
    have ek2 := k2.1
    have hp := k2.2.1
    have hq := k2.2.2
    have xl : x.kids.length = 2 := by rw [ek2]; rfl
    have cs0 := kcn 0 pk (by omega) (by rw [ek2]; rfl)
    have cs1 := kcn 1 qk (by omega) (by rw [ek2]; rfl)
    have zA : (shE (L.map Prod.fst) g pk).size ≤ 1048640 * 2001 := Nat.le_trans (szk pk hp.1 hp.2).1 (Nat.mul_le_mul_left _ (by omega))
    have zB := Nat.le_trans ((szk qk hq.1 hq.2).1) (Nat.mul_le_mul_left 1048640 (show cnt (L.map Prod.fst) g qk ≤ 2001 by omega))
    have Ep := EX pk hp.1 hp.2 (by omega)
    have Eq := EX qk hq.1 hq.2 (by omega)
    have kz0 := kidN'_0 ek2
    have kz1 := kidN'_1 ek2
    have ka := kid_p c2 hx (a := 0) (by omega) (k := pk) (by rw [ek2]; rfl)
    have kb := kid_p c2 hx (a := 1) (by omega) (k := qk) (by rw [ek2]; rfl)
    with_reducible refine Exists.elim ka (fun ia ka => ?_)
    with_reducible refine Exists.elim ka (fun oa ka => ?_)
    with_reducible refine Exists.elim ka (fun ca ka => ?_)
    have ev := ka.1
    have la := ka.2.1
    have ra := ka.2.2
    clear ka
    subst ev
    have rb : rd1 h1 ia (oa + 1 * 1) = some (.int .i64 (qk : Nat)) := by
      obtain ⟨a, b, d, e, l, q⟩ := kb
      injection e with e _ _
      injection e with e
      injection e with e1 e2
      subst e1 e2
      exact q
    rw [Nat.zero_mul, Nat.add_zero] at ra
    rw [Nat.one_mul] at rb
    simp (maxSteps := 1000000) -implicitDefEqProofs only [push_cast, seval]
    refine WC.draw' (by kernel_rfl) (by kernel_rfl) (.q 0 (.q 1 (.q 2 (.q 3 (.q 4 (.q 5 (.q 6 (.q 7 (.q 11 (.q 12 (.q 13 (.q 14 (.q 15 (.c 8 (.q 9 (.q 10 (.c 16 (.q 17 (.q 18 (.done)))))))))))))))))))) (by kernel_rfl) ?_
    simp (maxSteps := 1000000) -implicitDefEqProofs only [push_cast, seval, b1, rd_of b1, rd1_of b1, l1, la, ra, u1, xl, rb]
    repeat (with_reducible refine And.intro ?_ ?_; · (first | omega | decide))
    with_reducible refine CQ.look _ (ShP.look Ep c2) ?_
    simp (maxSteps := 1000000) -implicitDefEqProofs only [push_cast, seval, b1, rd_of b1, rd1_of b1, l1, la, ra, u1, xl, rb]
    repeat (with_reducible refine And.intro ?_ ?_; · (first | omega | decide))
    repeat (with_reducible refine And.intro (by first | omega | (simp only [ByteArray.size_append]; omega)) ?_)
    with_reducible refine CQ.look _ (ShP.look Eq c2) ?_
    simp (maxSteps := 1000000) -implicitDefEqProofs only [push_cast, seval, b1, rd_of b1, rd1_of b1, l1, la, ra, u1, xl, rb]
    repeat (with_reducible refine And.intro (by first | omega | (simp only [ByteArray.size_append]; omega)) ?_)
    refine ⟨?_, kp⟩
    rw [kz0, kz1]
  rw [if_neg o20] at eS
  simp (maxSteps := 1000000) -implicitDefEqProofs only [push_cast, seval, b1, rd_of b1, rd1_of b1, l1]
  with_reducible refine bcase_d (fun o21 => ?_) (fun o21 => ?_)
  · rw [if_pos o21] at eS
    rw [eS]
    have k2 := ek.b (by omega)
    with_reducible refine Exists.elim k2 (fun pk k2 => ?_)
    with_reducible refine Exists.elim k2 (fun qk k2 => ?_)
    have ek2 := k2.1
    have hp := k2.2.1
    have hq := k2.2.2
    have xl : x.kids.length = 2 := by rw [ek2]; rfl
    have cs0 := kcn 0 pk (by omega) (by rw [ek2]; rfl)
    have cs1 := kcn 1 qk (by omega) (by rw [ek2]; rfl)
    have zA : (shE (L.map Prod.fst) g pk).size ≤ 1048640 * 2001 := Nat.le_trans (szk pk hp.1 hp.2).1 (Nat.mul_le_mul_left _ (by omega))
    have zB := Nat.le_trans ((szk qk hq.1 hq.2).1) (Nat.mul_le_mul_left 1048640 (show cnt (L.map Prod.fst) g qk ≤ 2001 by omega))
    have Ep := EX pk hp.1 hp.2 (by omega)
    have Eq := EX qk hq.1 hq.2 (by omega)
    have kz0 := kidN'_0 ek2
    have kz1 := kidN'_1 ek2
    have ka := kid_p c2 hx (a := 0) (by omega) (k := pk) (by rw [ek2]; rfl)
    have kb := kid_p c2 hx (a := 1) (by omega) (k := qk) (by rw [ek2]; rfl)
    with_reducible refine Exists.elim ka (fun ia ka => ?_)
    with_reducible refine Exists.elim ka (fun oa ka => ?_)
    with_reducible refine Exists.elim ka (fun ca ka => ?_)
    have ev := ka.1
    have la := ka.2.1
    have ra := ka.2.2
    clear ka
    subst ev
    have rb : rd1 h1 ia (oa + 1 * 1) = some (.int .i64 (qk : Nat)) := by
      obtain ⟨a, b, d, e, l, q⟩ := kb
      injection e with e _ _
      injection e with e
      injection e with e1 e2
      subst e1 e2
      exact q
    rw [Nat.zero_mul, Nat.add_zero] at ra
    rw [Nat.one_mul] at rb
    simp (maxSteps := 1000000) -implicitDefEqProofs only [push_cast, seval]
    refine WC.draw' (by kernel_rfl) (by kernel_rfl) (.q 0 (.q 1 (.q 2 (.q 3 (.q 4 (.q 5 (.q 6 (.q 7 (.q 11 (.q 12 (.q 13 (.q 14 (.q 15 (.c 8 (.q 9 (.q 10 (.c 16 (.q 17 (.q 18 (.done)))))))))))))))))))) (by kernel_rfl) ?_
    simp (maxSteps := 1000000) -implicitDefEqProofs only [push_cast, seval, b1, rd_of b1, rd1_of b1, l1, la, ra, u1, xl, rb]
    repeat (with_reducible refine And.intro ?_ ?_; · (first | omega | decide))
    with_reducible refine CQ.look _ (ShP.look Ep c2) ?_
    simp (maxSteps := 1000000) -implicitDefEqProofs only [push_cast, seval, b1, rd_of b1, rd1_of b1, l1, la, ra, u1, xl, rb]
    repeat (with_reducible refine And.intro ?_ ?_; · (first | omega | decide))
    repeat (with_reducible refine And.intro (by first | omega | (simp only [ByteArray.size_append]; omega)) ?_)
    with_reducible refine CQ.look _ (ShP.look Eq c2) ?_
    simp (maxSteps := 1000000) -implicitDefEqProofs only [push_cast, seval, b1, rd_of b1, rd1_of b1, l1, la, ra, u1, xl, rb]
    repeat (with_reducible refine And.intro (by first | omega | (simp only [ByteArray.size_append]; omega)) ?_)
    refine ⟨?_, kp⟩
    rw [kz0, kz1]
  rw [if_neg o21] at eS
  simp (maxSteps := 1000000) -implicitDefEqProofs only [push_cast, seval, b1, rd_of b1, rd1_of b1, l1]
  with_reducible refine bcase_d (fun o22 => ?_) (fun o22 => ?_)
  · rw [if_pos o22] at eS
    rw [eS]
    have kq := sk.c o22
    with_reducible refine Exists.elim kq (fun pk kq => ?_)
    with_reducible refine Exists.elim kq (fun qk kq => ?_)
    have hp := kq.1
    have hq := kq.2.1
    have hk2 := kq.2.2
    clear kq
    with_reducible refine Or.elim hk2 (fun ek2 => ?_) (fun hk3 => ?_)
    · have xl : x.kids.length = 2 := by rw [ek2]; rfl
      have cs0 := kcn 0 pk (by omega) (by rw [ek2]; rfl)
      have cs1 := kcn 1 qk (by omega) (by rw [ek2]; rfl)
      have zA : (shE (L.map Prod.fst) g pk).size ≤ 1048640 * 2001 := Nat.le_trans (szk pk hp.1 hp.2).1 (Nat.mul_le_mul_left _ (by omega))
      have zB := Nat.le_trans (szs qk hq.1 hq.2) (Nat.mul_le_mul_left 1048640 (show cnt (L.map Prod.fst) g qk ≤ 2001 by omega))
      have Ep := EX pk hp.1 hp.2 (by omega)
      have Eq := ihg qk hq.1 hq.2 (by omega)
      have kz0 := kidN'_0 ek2
      have kz1 := kidN'_1 ek2
      have ka := kid_p c2 hx (a := 0) (by omega) (k := pk) (by rw [ek2]; rfl)
      have kb := kid_p c2 hx (a := 1) (by omega) (k := qk) (by rw [ek2]; rfl)
      with_reducible refine Exists.elim ka (fun ia ka => ?_)
      with_reducible refine Exists.elim ka (fun oa ka => ?_)
      with_reducible refine Exists.elim ka (fun ca ka => ?_)
      have ev := ka.1
      have la := ka.2.1
      have ra := ka.2.2
      clear ka
      subst ev
      have rb : rd1 h1 ia (oa + 1 * 1) = some (.int .i64 (qk : Nat)) := by
        obtain ⟨a, b, d, e, l, q⟩ := kb
        injection e with e _ _
        injection e with e
        injection e with e1 e2
        subst e1 e2
        exact q
      rw [Nat.zero_mul, Nat.add_zero] at ra
      rw [Nat.one_mul] at rb
      simp (maxSteps := 1000000) -implicitDefEqProofs only [push_cast, seval]
      refine WC.draw' (by kernel_rfl) (by kernel_rfl) (.q 0 (.q 1 (.q 2 (.q 3 (.q 4 (.q 8 (.q 9 (.q 10 (.q 11 (.q 12 (.c 5 (.q 6 (.q 7 (.c 13 (.q 14 (.q 15 (.done))))))))))))))))) (by kernel_rfl) ?_
      simp (maxSteps := 1000000) -implicitDefEqProofs only [push_cast, seval, b1, rd_of b1, rd1_of b1, l1, la, ra, u1, xl, rb]
      repeat (with_reducible refine And.intro ?_ ?_; · (first | omega | decide))
      with_reducible refine CQ.look _ (ShP.look Ep c2) ?_
      simp (maxSteps := 1000000) -implicitDefEqProofs only [push_cast, seval, b1, rd_of b1, rd1_of b1, l1, la, ra, u1, xl, rb]
      repeat (with_reducible refine And.intro ?_ ?_; · (first | omega | decide))
      repeat (with_reducible refine And.intro (by first | omega | (simp only [ByteArray.size_append]; omega)) ?_)
      with_reducible refine CQ.look _ (ShP.look Eq c2) ?_
      simp (maxSteps := 1000000) -implicitDefEqProofs only [push_cast, seval, b1, rd_of b1, rd1_of b1, l1, la, ra, u1, xl, rb]
      repeat (with_reducible refine And.intro (by first | omega | (simp only [ByteArray.size_append]; omega)) ?_)
      refine ⟨?_, kp⟩
      rw [kz0, kz1]
    · with_reducible refine Exists.elim hk3 (fun rk hk3 => ?_)
      have ek2 := hk3.1
      have hr := hk3.2
      have xl : x.kids.length = 3 := by rw [ek2]; rfl
      have cs2 := kcn 2 rk (by omega) (by rw [ek2]; rfl)
      have zC := Nat.le_trans (szs rk hr.1 hr.2) (Nat.mul_le_mul_left 1048640 (show cnt (L.map Prod.fst) g rk ≤ 2001 by omega))
      have Er := ihg rk hr.1 hr.2 (by omega)
      have kz2 : kidN' x 2 = rk := by unfold kidN'; rw [ek2]; rfl
      have cs0 := kcn 0 pk (by omega) (by rw [ek2]; rfl)
      have cs1 := kcn 1 qk (by omega) (by rw [ek2]; rfl)
      have zA : (shE (L.map Prod.fst) g pk).size ≤ 1048640 * 2001 := Nat.le_trans (szk pk hp.1 hp.2).1 (Nat.mul_le_mul_left _ (by omega))
      have zB := Nat.le_trans (szs qk hq.1 hq.2) (Nat.mul_le_mul_left 1048640 (show cnt (L.map Prod.fst) g qk ≤ 2001 by omega))
      have Ep := EX pk hp.1 hp.2 (by omega)
      have Eq := ihg qk hq.1 hq.2 (by omega)
      have kz0 := kidN'_0 ek2
      have kz1 := kidN'_1 ek2
      have ka := kid_p c2 hx (a := 0) (by omega) (k := pk) (by rw [ek2]; rfl)
      have kb := kid_p c2 hx (a := 1) (by omega) (k := qk) (by rw [ek2]; rfl)
      have kc := kid_p c2 hx (a := 2) (by omega) (k := rk) (by rw [ek2]; rfl)
      with_reducible refine Exists.elim ka (fun ia ka => ?_)
      with_reducible refine Exists.elim ka (fun oa ka => ?_)
      with_reducible refine Exists.elim ka (fun ca ka => ?_)
      have ev := ka.1
      have la := ka.2.1
      have ra := ka.2.2
      clear ka
      subst ev
      have rb : rd1 h1 ia (oa + 1 * 1) = some (.int .i64 (qk : Nat)) := by
        obtain ⟨a, b, d, e, l, q⟩ := kb
        injection e with e _ _
        injection e with e
        injection e with e1 e2
        subst e1 e2
        exact q
      have rc : rd1 h1 ia (oa + 2 * 1) = some (.int .i64 (rk : Nat)) := by
        obtain ⟨a, b, d, e, l, q⟩ := kc
        injection e with e _ _
        injection e with e
        injection e with e1 e2
        subst e1 e2
        exact q
      rw [Nat.mul_one] at rc
      rw [Nat.zero_mul, Nat.add_zero] at ra
      rw [Nat.one_mul] at rb
      simp (maxSteps := 1000000) -implicitDefEqProofs only [push_cast, seval]
      refine WC.draw' (by kernel_rfl) (by kernel_rfl) (.q 0 (.q 1 (.q 2 (.q 3 (.q 4 (.q 8 (.q 9 (.q 10 (.q 11 (.q 12 (.c 5 (.q 6 (.q 7 (.c 13 (.q 14 (.q 15 (.done))))))))))))))))) (by kernel_rfl) ?_
      simp (maxSteps := 1000000) -implicitDefEqProofs only [push_cast, seval, b1, rd_of b1, rd1_of b1, l1, la, ra, u1, xl, rb]
      repeat (with_reducible refine And.intro ?_ ?_; · (first | omega | decide))
      with_reducible refine CQ.look _ (ShP.look Ep c2) ?_
      simp (maxSteps := 1000000) -implicitDefEqProofs only [push_cast, seval, b1, rd_of b1, rd1_of b1, l1, la, ra, u1, xl, rb]
      repeat (with_reducible refine And.intro ?_ ?_; · (first | omega | decide))
      repeat (with_reducible refine And.intro (by first | omega | (simp only [ByteArray.size_append]; omega)) ?_)
      with_reducible refine CQ.look _ (ShP.look Eq c2) ?_
      simp (maxSteps := 1000000) -implicitDefEqProofs only [push_cast, seval, b1, rd_of b1, rd1_of b1, l1, la, ra, u1, xl, rb]
      repeat (with_reducible refine And.intro (by first | omega | (simp only [ByteArray.size_append]; omega)) ?_)
      simp (maxSteps := 1000000) -implicitDefEqProofs only [push_cast, seval, b1, rd_of b1, rd1_of b1, l1, la, ra, u1, xl, rb, rc]
      repeat (with_reducible refine And.intro ?_ ?_; · (first | omega | decide))
      unfold ShP at Er
      with_reducible refine CD.to (Er h1 c2) ?_
      simp (maxSteps := 1000000) -implicitDefEqProofs only [push_cast, seval]
      repeat (with_reducible refine And.intro (by first | omega | (simp only [ByteArray.size_append]; omega)) ?_)
      refine ⟨?_, kp⟩
      rw [if_pos xl, kz0, kz1, kz2]
  rw [if_neg o22] at eS
  simp (maxSteps := 1000000) -implicitDefEqProofs only [push_cast, seval, b1, rd_of b1, rd1_of b1, l1]
  with_reducible refine bcase_d (fun o23 => ?_) (fun o23 => ?_)
  · rw [if_pos o23] at eS
    rw [eS]
    simp (maxSteps := 1000000) -implicitDefEqProofs only [push_cast, seval, b1, rd_of b1, rd1_of b1, l1]
    exact kp
  rw [if_neg o23] at eS
  simp (maxSteps := 1000000) -implicitDefEqProofs only [push_cast, seval, b1, rd_of b1, rd1_of b1, l1]
  with_reducible refine bcase_d (fun o25 => ?_) (fun o25 => ?_)
  · rw [if_pos o25] at eS
    rw [eS]
    simp (maxSteps := 1000000) -implicitDefEqProofs only [push_cast, seval, b1, rd_of b1, rd1_of b1, l1]
    repeat (with_reducible refine And.intro (by first | omega | (simp only [ByteArray.size_append]; omega)) ?_)
    exact kp
  rw [if_neg o25] at eS
  have o24 : x.op = 24 := by omega
  rw [eS]
  by_cases e0 : x.kids = []
  · have d0 : decide ((x.kids.length : Int) = 0) = true := decide_eq_true (by rw [e0]; rfl)
    subst ekv
    simp (maxSteps := 1000000) -implicitDefEqProofs only [push_cast, seval, b1, rd_of b1, rd1_of b1, l1, u1, d0]
    rw [if_pos e0]
    exact ⟨rfl, kp⟩
  have hpos : 0 < x.kids.length := List.length_pos_iff.2 e0
  have d0 : decide ((x.kids.length : Int) = 0) = false := decide_eq_false (by omega)
  have sp := sk.b o24
  have spl := sp.1
  subst ekv
  simp (maxSteps := 1000000) -implicitDefEqProofs only [push_cast, seval, b1, rd_of b1, rd1_of b1, l1, u1, d0]
  have g0 : Gr h1.n (h1.alloc (.cells [] .solo h1.n)) (.slice (some ⟨h1.n, 0, none⟩) 0 1) 1 ((((x.kids.take 0).map fun a => shS (L.map Prod.fst) g a.toNat).map encTx).flatten) := Gr.new (Nat.le_refl _) [] 0 1 rfl
  refine WC.loopA (by kernel_rfl) [10, 152] [12, 153, 154, 155, 156, 157, 158, 159, 160, 161, 162] (fun a : Nat × Value => [a.2, .int .i64 (a.1 : Nat)]) (fun a h' => a.1 ≤ x.kids.length ∧ Gr h1.n h' a.2 1 ((((x.kids.take a.1).map fun a => shS (L.map Prod.fst) g a.toNat).map encTx).flatten) ∧ Pre h1 h') (fun a => x.kids.length - a.1) (0, .slice (some ⟨h1.n, 0, none⟩) 0 1) (by kernel_rfl) ⟨Nat.zero_le _, g0, (Pre.refl _).alloc _⟩ ?_
  clear g0
  intro a gg h2 hJ
  obtain ⟨i, v⟩ := a
  have hi := hJ.1
  have g2 := hJ.2.1
  have p2 := hJ.2.2
  clear hJ
  simp only at hi g2
  have b2 := (p2.ob _ l1).trans b1
  have l2 : h.n < h2.n := Nat.lt_of_lt_of_le l1 p2.n
  have c3 := c2.pre p2
  simp (maxSteps := 1000000) -implicitDefEqProofs only [push_cast, seval, b2, rd_of b2, rd1_of b2, l2]
  with_reducible refine bcase_d (fun hb => ?_) (fun hb => ?_)
  · have hi' : i < x.kids.length := by omega
    have kk := sp.2 i hi'
    with_reducible refine Exists.elim kk (fun j kk => ?_)
    have ej := kk.1
    have lj := kk.2.1
    have cj := kcn i j hi' ej
    have fs := strs_succ (F := shS (L.map Prod.fst) g) hi' ej
    have Ej := ihg j lj kk.2.2 (by omega)
    unfold ShP at Ej
    have z0 := kid_p c3 hx hi' ej
    with_reducible refine Exists.elim z0 (fun id z0 => ?_)
    with_reducible refine Exists.elim z0 (fun off z0 => ?_)
    with_reducible refine Exists.elim z0 (fun q z0 => ?_)
    have ekv := z0.1
    injection ekv with ekv _ _
    subst ekv
    have lid := z0.2.1
    have rk := z0.2.2
    clear z0
    simp (maxSteps := 1000000) -implicitDefEqProofs only [push_cast, seval, b2, rd_of b2, rd1_of b2, l2, rk, lid]
    repeat (with_reducible refine And.intro ?_ ?_; · (first | omega | decide))
    with_reducible refine CD.to (Ej h2 c3) ?_
    simp (maxSteps := 1000000) -implicitDefEqProofs only [push_cast, seval]
    have xl : ((((x.kids.take i).map fun a => shS (L.map Prod.fst) g a.toNat).map encTx).flatten).length = i * 1 := by
      rw [flat_len (k := 1) _ (fun _ => rfl), List.length_map, List.length_take]; congr 1; omega
    refine Gr.app1 (h0 := h1) si37 (by decide) (by decide) (notInt_sl und37) g2 p2 rfl (by rw [xl]; omega) (by decide) (fun h3 gr ow p3 n3 he => ?_)
    have el : ((((x.kids.take i).map fun a => shS (L.map Prod.fst) g a.toNat).map encTx).flatten).length / 1 + 1 = i + 1 := by rw [xl]; omega
    rw [el] at gr ⊢
    simp (maxSteps := 1000000) -implicitDefEqProofs only [push_cast, seval]
    rw [wrapSucc (by omega)]
    have g3 : Gr h1.n h3 (.slice (some ⟨h2.n + 1, 0, none⟩) (i + 1) 1) 1 ((((x.kids.take (i + 1)).map fun a => shS (L.map Prod.fst) g a.toNat).map encTx).flatten) := by
      rw [fs, List.map_append, List.flatten_append]; exact gr
    refine ⟨(i + 1, .slice (some ⟨h2.n + 1, 0, none⟩) (i + 1) 1), by kernel_rfl, ⟨by show i + 1 ≤ _; omega, g3, p3⟩, by show _ - (i + 1) < _ - i; omega⟩
  have ei : i = x.kids.length := by omega
  rw [ei, List.take_length] at g2
  have jb := jB_size (⟨#[59, 32]⟩ : ByteArray) (x.kids.map fun a => shS (L.map Prod.fst) g a.toNat)
  rw [List.map_map, List.length_map] at jb
  have sb := sum_bound (ByteArray.size ∘ fun a : Int => shS (L.map Prod.fst) g a.toNat) (fun a : Int => cnt (L.map Prod.fst) g a.toNat) 1048640 x.kids (fun a ha => by
    obtain ⟨i, hi, e⟩ := kid_mem ha
    obtain ⟨m, e2, lm, xm⟩ := sp.2 i hi
    rw [e] at e2
    subst e2
    exact (szs m lm xm))
  have hc1 : (x.kids.map fun a : Int => cnt (L.map Prod.fst) g a.toNat).sum ≤ 2001 := by
    have : 1 + ((nd (L.map Prod.fst) k).kids.map fun a : Int => cnt (L.map Prod.fst) g a.toNat).sum ≤ 2001 := hc
    rw [hN] at this
    omega
  have z1 : ((⟨#[59, 32]⟩ : ByteArray)).size = 2 := rfl
  rw [z1] at jb
  have hzj : (jB (⟨#[59, 32]⟩ : ByteArray) (x.kids.map fun a => shS (L.map Prod.fst) g a.toNat)).size ≤ 140737488355328 := by
    have := Nat.mul_le_mul_left 1048640 hc1
    omega
  have kp2 : Keep h.n h h2 := (p0.trans p2).keep
  have lm : (x.kids.map fun a => shS (L.map Prod.fst) g a.toNat).length = x.kids.length := by rw [List.length_map]
  have hJ := join_own g2 (sep := (⟨#[59, 32]⟩ : ByteArray)) (by omega) (by omega) hzj
  simp (maxSteps := 1000000) -implicitDefEqProofs only [push_cast, seval, b2, rd_of b2, rd1_of b2, l2]
  with_reducible refine CD.to hJ ?_
  simp (maxSteps := 1000000) -implicitDefEqProofs only [push_cast, seval]
  repeat (with_reducible refine And.intro (by first | omega | (simp only [ByteArray.size_append]; omega)) ?_)
  refine ⟨?_, kp2⟩
  rw [if_neg e0]
end Go.Proofs.YtdlpdfclljnmhaaGreat
namespace Go.Proofs.YtdlpdfclljnmhaaGreat
open Go Go.Sim Go.Proofs
set_option linter.unusedSimpArgs false
set_option linter.unusedVariables false
set_option maxRecDepth 100000
set_option maxHeartbeats 1000000
variable {vN vR : Value} {L : List (Nd × Value)} {R : List Ru} {h h1 h2 h' : AH}
/-- Counted, no more than c. -/
def capC (c : Nat) (N : List Nd) (k : Nat) : Nat := min (cnt N N.length k) c
def sumR (c : Nat) (N : List Nd) (R : List Ru) : Nat := (R.map fun r => capC c N r.act.toNat + if 0 ≤ r.cond then capC c N r.cond.toNat else 0).sum
theorem min_sum {α : Type} (f : α → Nat) (c : Nat) : ∀ (l : List α) (x : Nat), min (x + (l.map fun a => min (f a) c).sum) c = min (x + (l.map f).sum) c
  | [], x => rfl
  | a :: l, x => by
    rw [List.map_cons, List.map_cons, List.sum_cons, List.sum_cons]
    have := min_sum f c l (x + min (f a) c)
    omega
theorem sum_congr {α : Type} (f g : α → Nat) : ∀ (l : List α), (∀ a ∈ l, f a = g a) → (l.map f).sum = (l.map g).sum
  | [], _ => rfl
  | a :: l, h => by
    rw [List.map_cons, List.map_cons, List.sum_cons, List.sum_cons, h a (List.mem_cons_self ..), sum_congr f g l (fun b hb => h b (List.mem_cons_of_mem _ hb))]
theorem cnt_fuel (hok : programOk ⟨L.map Prod.fst, R⟩ = true) : ∀ k, k < L.length → ∀ f f', k < f → k < f' → cnt (L.map Prod.fst) f k = cnt (L.map Prod.fst) f' k := by
  intro k
  induction k using Nat.strongRecOn with
  | ind k ih =>
  intro hk f f' hf hf'
  obtain ⟨g, rfl⟩ : ∃ g, f = g + 1 := ⟨f - 1, by omega⟩
  obtain ⟨g', rfl⟩ : ∃ g, f' = g + 1 := ⟨f' - 1, by omega⟩
  have okN := OkN.of hok hk
  have hx := nd_L (L := L) k hk
  unfold cnt
  rw [hx]
  congr 1
  refine sum_congr _ _ _ (fun a ha => ?_)
  obtain ⟨i, hi, e⟩ := kid_mem ha
  obtain ⟨m, e2, lm, _⟩ := okN.kid i hi
  rw [e] at e2
  subst e2
  exact ih m lm (by omega) g g' (by simpa using (by omega : m < g)) (by simpa using (by omega : m < g'))
/-- A node's count of its kids' counts. -/
theorem capC_kids (hok : programOk ⟨L.map Prod.fst, R⟩ = true) (c : Nat) {k : Nat} (hk : k < L.length) : capC c (L.map Prod.fst) k = min (1 + ((L[k].1.kids).map fun a => capC c (L.map Prod.fst) a.toNat).sum) c := by
  have okN := OkN.of hok hk
  have hx := nd_L (L := L) k hk
  have e1 := cnt_fuel hok k hk (L.map Prod.fst).length (L.length + 1) (by rw [List.length_map]; exact hk) (by omega)
  unfold capC
  rw [min_sum (fun a : Int => cnt (L.map Prod.fst) (L.map Prod.fst).length a.toNat) c, e1, show cnt (L.map Prod.fst) (L.length + 1) k = 1 + ((nd (L.map Prod.fst) k).kids.map fun a => cnt (L.map Prod.fst) L.length a.toNat).sum from rfl, hx]
  congr 2
  refine sum_congr _ _ _ (fun a ha => ?_)
  obtain ⟨i, hi, e⟩ := kid_mem ha
  obtain ⟨m, e2, lm, _⟩ := okN.kid i hi
  rw [e] at e2
  subst e2
  have q := cnt_fuel hok m (by omega) (L.map Prod.fst).length L.length (by rw [List.length_map]; omega) (by omega)
  first | exact q | exact q.symm
theorem capC_le (c : Nat) (N : List Nd) (k : Nat) : capC c N k ≤ c := Nat.min_le_right _ _
theorem sumR_2000 (N : List Nd) : ∀ (R : List Ru) (c : Nat), 2001 ≤ c → min (sumR c N R) 2001 = min (cntAll N R) 2001
  | [], c, _ => rfl
  | r :: R, c, h => by
    have ih := sumR_2000 N R c h
    unfold sumR cntAll at *
    rw [List.map_cons, List.map_cons, List.sum_cons, List.sum_cons]
    generalize (R.map fun r => capC c N r.act.toNat + if 0 ≤ r.cond then capC c N r.cond.toNat else 0).sum = X at *
    generalize (R.map (cntR N)).sum = Y at *
    unfold cntR capC
    generalize cnt N N.length r.act.toNat = a
    generalize cnt N N.length r.cond.toNat = b
    split <;> omega
theorem capC_take {c : Nat} {N : List Nd} {kids : List Int} {i k : Nat} (hi : i < kids.length) (e : kids.getD i 0 = (k : Int)) : ((kids.take (i + 1)).map fun a => capC c N a.toNat).sum = ((kids.take i).map fun a => capC c N a.toNat).sum + capC c N k := by
  have e2 : kids[i] = (k : Int) := by rw [← e]; simp [List.getD_eq_getElem?_getD, hi]
  rw [List.take_add_one, List.getElem?_eq_getElem hi, Option.toList_some, List.map_append, e2, List.sum_append, List.map_cons, List.map_nil, List.sum_cons, List.sum_nil]
  simp
theorem sum_le_c {c : Nat} {N : List Nd} : ∀ (l : List Int), (l.map fun a => capC c N a.toNat).sum ≤ l.length * c
  | [] => Nat.zero_le _
  | a :: l => by
    have := sum_le_c (c := c) (N := N) l
    have := capC_le c N a.toNat
    rw [List.map_cons, List.sum_cons, List.length_cons, Nat.succ_mul]
    omega
theorem countsOf_i (hok : programOk ⟨L.map Prod.fst, R⟩ = true) (h : AH) (c : RdG h vN vR L R) :
    CC Tryz.prog 66 [.agg #[vN, vR]] h (fun v h' => RdV h' v 1 encNa ((List.range L.length).map (capC 2002 (L.map Prod.fst))) ∧ Pre h h') := by
  have okG := OkG.of hok
  have hL := okG.n
  have y1 := c.nodes.one
  have y2 := c.rules.one
  have p0 : Pre h (h.alloc (.cells [vN, vR] .solo h.n)) := (Pre.refl h).alloc _
  have kf := c.nodes.rde (fun x => by unfold encD; rfl)
  obtain ⟨An, qn, en, _⟩ := kf
  refine CC.ofN Tryz.func66 Tryz.ntmps66 Tryz.results66 rfl (by decide) (by kernel_rfl) ?_
  simp (maxSteps := 1000000) -implicitDefEqProofs only [push_cast, seval, y1, y2]
  repeat (with_reducible refine And.intro ?_ ?_; · (first | omega | decide))
  subst en
  simp (maxSteps := 1000000) -implicitDefEqProofs only [push_cast, seval, y1, y2]
  have g0 : Gr (h.n + 1) ((h.alloc (.cells [.slice An L.length qn, vR] .solo h.n)).alloc (.cells [] .solo (h.n + 1))) (.slice (some ⟨h.n + 1, 0, none⟩) 0 1) 1 ((((List.range 0).map (capC 2002 (L.map Prod.fst))).map encNa).flatten) := Gr.new (h := h.alloc _) (Nat.le_refl _) [] 0 1 rfl
  have pz : Pre h ((h.alloc (.cells [.slice An L.length qn, vR] .solo h.n)).alloc (.cells [] .solo (h.n + 1))) := p0.alloc _
  have nz : h.n < ((h.alloc (.cells [.slice An L.length qn, vR] .solo h.n)).alloc (.cells [] .solo (h.n + 1))).n := by show h.n < h.n + 1 + 1; omega
  generalize ((h.alloc (.cells [.slice An L.length qn, vR] .solo h.n)).alloc (.cells [] .solo (h.n + 1))) = hz at *
  refine WC.loopA (by kernel_rfl) [3, 13] [5, 6, 8, 14, 15, 16, 17, 18, 19, 20, 21, 22, 23, 24, 25, 26, 27, 28, 29, 30, 31, 32, 33, 34, 35, 36] (fun a : Nat × Value => [a.2, .int .i64 (a.1 : Nat)]) (fun a h' => a.1 ≤ L.length ∧ Gr (h.n + 1) h' a.2 1 ((((List.range a.1).map (capC 2002 (L.map Prod.fst))).map encNa).flatten) ∧ Pre h h' ∧ h.n < h'.n) (fun a => L.length - a.1) (0, .slice (some ⟨h.n + 1, 0, none⟩) 0 1) (by kernel_rfl) ⟨Nat.zero_le _, g0, pz, nz⟩ ?_
  clear g0 pz nz
  intro a gg h2 hJ
  obtain ⟨i, v⟩ := a
  have hi := hJ.1
  have g2 := hJ.2.1
  have p2 := hJ.2.2.1
  have l2 := hJ.2.2.2
  clear hJ
  simp only at hi g2
  have c2 := c.pre p2
  simp (maxSteps := 1000000) -implicitDefEqProofs only [push_cast, seval]
  with_reducible refine bcase_d (fun hb => ?_) (fun hb => ?_)
  rotate_left
  · have ei : i = L.length := by omega
    rw [ei] at g2
    simp (maxSteps := 1000000) -implicitDefEqProofs only [push_cast, seval]
    exact ⟨g2.rdv (by decide) (fun _ => rfl), p2⟩
  have hi' : i < L.length := by omega
  have okN := OkN.of hok hi'
  have klen := okG.klen i hi'
  have eC := capC_kids hok 2002 hi'
  have zN := c2.nodes.el (fun x => by unfold encD; rfl) hi'
  with_reducible refine Exists.elim zN (fun iN zN => ?_)
  with_reducible refine Exists.elim zN (fun oN zN => ?_)
  with_reducible refine Exists.elim zN (fun qN zN => ?_)
  have eN := zN.1
  injection eN with eN _ _
  subst eN
  have lN := zN.2.1
  have rN := zN.2.2
  clear zN
  simp only [encD] at rN
  have r0 := (rd_3 rN).1
  have r1 := (rd_3 rN).2.1
  have r2 := (rd_3 rN).2.2
  have hx : (L[i].1, L[i].2) ∈ L := List.getElem_mem hi'
  have u1 := (c2.kids _ hx).one
  generalize L[i].1 = x at *
  generalize L[i].2 = kv at *
  have kr := (c2.kids _ hx).rde (fun _ => rfl)
  with_reducible refine Exists.elim kr (fun Ak kr => ?_)
  with_reducible refine Exists.elim kr (fun ck kr => ?_)
  have ekv : kv = .slice Ak x.kids.length ck := kr.1
  clear kr
  subst ekv
  have nb := ((Pre.refl h2).alloc (.cells [.int .i64 0, .string ⟨#[]⟩, .slice none 0 0] .solo h2.n)).set (Nat.le_refl h2.n) (.cells [.int .i64 x.op, .string x.text, .slice Ak x.kids.length ck] .solo h2.n)
  have nn : ((h2.alloc (.cells [.int .i64 0, .string ⟨#[]⟩, .slice none 0 0] .solo h2.n)).set h2.n (.cells [.int .i64 x.op, .string x.text, .slice Ak x.kids.length ck] .solo h2.n)).n = h2.n + 1 := rfl
  simp (maxSteps := 1000000) -implicitDefEqProofs only [push_cast, seval, rN, r0, r1, r2, lN, u1]
  repeat (with_reducible refine And.intro ?_ ?_; · (first | omega | decide))
  generalize ((h2.alloc (.cells [.int .i64 0, .string ⟨#[]⟩, .slice none 0 0] .solo h2.n)).set h2.n (.cells [.int .i64 x.op, .string x.text, .slice Ak x.kids.length ck] .solo h2.n)) = h3 at *
  have c3 := c2.pre nb
  have g3 := g2.keep nb.n (fun i e => nb.ob i (g2.range e).2)
  refine WC.loopA (by kernel_rfl) [6, 20] [8, 21, 22, 23, 24, 25, 26, 27, 28, 29, 30] (fun a : Nat × Nat => [.int .i64 (a.2 : Nat), .int .i64 (a.1 : Nat)]) (fun a h' => a.1 ≤ x.kids.length ∧ a.2 = 1 + ((x.kids.take a.1).map fun a => capC 2002 (L.map Prod.fst) a.toNat).sum ∧ Pre h3 h') (fun a => x.kids.length - a.1) (0, 1) (by kernel_rfl) ⟨Nat.zero_le _, rfl, Pre.refl _⟩ ?_
  intro a gg2 h4 hJ
  obtain ⟨k, n⟩ := a
  have hk := hJ.1
  have en := hJ.2.1
  have p4 := hJ.2.2
  clear hJ
  simp only at hk en
  have c4 := c3.pre p4
  have g4 := g3.keep p4.n (fun i e => p4.ob i (g3.range e).2)
  have sl := sum_le_c (c := 2002) (N := L.map Prod.fst) (x.kids.take k)
  rw [List.length_take] at sl
  have sl2 : min k x.kids.length * 2002 ≤ 20 * 2002 := Nat.mul_le_mul_right _ (by omega)
  simp (maxSteps := 1000000) -implicitDefEqProofs only [push_cast, seval]
  with_reducible refine bcase_d (fun hb2 => ?_) (fun hb2 => ?_)
  · have hk' : k < x.kids.length := by omega
    have kk := okN.kid k hk'
    with_reducible refine Exists.elim kk (fun j kk => ?_)
    have ej := kk.1
    have lj := kk.2.1
    have ts := capC_take (c := 2002) (N := L.map Prod.fst) hk' ej
    have cl := capC_le 2002 (L.map Prod.fst) j
    have rX : RdV h4 v 1 encNa ((List.range i).map (capC 2002 (L.map Prod.fst))) := g4.rdv (by decide) (fun _ => rfl)
    have z1 := rX.el (fun _ => rfl) (i := j) (by rw [List.length_map, List.length_range]; exact lj)
    rw [List.getElem_map, List.getElem_range, List.length_map, List.length_range] at z1
    have z0 := kid_g c4 hx hk' ej
    with_reducible refine Exists.elim z0 (fun id z0 => ?_)
    with_reducible refine Exists.elim z0 (fun off z0 => ?_)
    with_reducible refine Exists.elim z0 (fun q z0 => ?_)
    have ekv := z0.1
    injection ekv with ekv _ _
    subst ekv
    have lid := z0.2.1
    have rk := z0.2.2
    clear z0
    with_reducible refine Exists.elim z1 (fun id2 z1 => ?_)
    with_reducible refine Exists.elim z1 (fun off2 z1 => ?_)
    with_reducible refine Exists.elim z1 (fun q2 z1 => ?_)
    have ev := z1.1
    subst ev
    have lid2 := z1.2.1
    have rk2 := rd_1 z1.2.2
    clear z1
    simp (maxSteps := 1000000) -implicitDefEqProofs only [push_cast, seval, rk, lid, rk2, lid2]
    repeat (with_reducible refine And.intro ?_ ?_; · (first | omega | decide))
    rw [wrapSucc (by omega)]
    have wq : IntKind.i64.wrap ((n : Int) + (capC 2002 (L.map Prod.fst) j : Nat)) = ((n + capC 2002 (L.map Prod.fst) j : Nat) : Int) := by rw [w64 (by omega) (by omega)]; push_cast; rfl
    rw [wq]
    exact ⟨(k + 1, n + capC 2002 (L.map Prod.fst) j), by kernel_rfl, ⟨by show k + 1 ≤ _; omega, by show n + _ = _; rw [ts, en]; omega, p4⟩, by show _ - (k + 1) < _ - k; omega⟩
  have ek : k = x.kids.length := by omega
  rw [ek, List.take_length] at en
  simp (maxSteps := 1000000) -implicitDefEqProofs only [push_cast, seval]
  have xl : ((((List.range i).map (capC 2002 (L.map Prod.fst))).map encNa).flatten).length = i * 1 := by
    rw [flat_len (k := 1) _ (fun _ => rfl), List.length_map, List.length_range]
  have em : (min ((n : Nat) : Int) 2002) = ((capC 2002 (L.map Prod.fst) i : Nat) : Int) := by rw [eC, ← en]; omega
  rw [em]
  have lo4 := (nb.trans p4)
  refine Gr.app1 (h0 := ⟨h.n + 1, h4.ob⟩) si62 (by decide) (by decide) (notInt_sl und62) g4 ⟨by have := lo4.n; show h.n + 1 ≤ h4.n; omega, fun _ _ => rfl⟩ rfl (by rw [xl]; omega) (by decide) (fun h5 gr ow p5 n5 he => ?_)
  have el : ((((List.range i).map (capC 2002 (L.map Prod.fst))).map encNa).flatten).length / 1 + 1 = i + 1 := by rw [xl]; omega
  rw [el] at gr ⊢
  simp (maxSteps := 1000000) -implicitDefEqProofs only [push_cast, seval]
  rw [wrapSucc (by omega)]
  have g5 : Gr (h.n + 1) h5 (.slice (some ⟨h4.n + 1, 0, none⟩) (i + 1) 1) 1 ((((List.range (i + 1)).map (capC 2002 (L.map Prod.fst))).map encNa).flatten) := by
    rw [List.range_succ, List.map_append, List.map_append, List.flatten_append]; exact gr
  have p5' : Pre h h5 := ⟨by have := lo4.n; have := p2.n; omega, fun j hj => (he j (by have := lo4.n; omega) (fun e => by have := g4.range e; omega)).trans ((p2.trans lo4).ob j hj)⟩
  exact ⟨(i + 1, .slice (some ⟨h4.n + 1, 0, none⟩) (i + 1) 1), by kernel_rfl, ⟨by show i + 1 ≤ _; omega, g5, p5', by have := lo4.n; omega⟩, by show _ - (i + 1) < _ - i; omega⟩
theorem sumR_succ {c : Nat} {N : List Nd} {i : Nat} (hi : i < R.length) : sumR c N (R.take (i + 1)) = sumR c N (R.take i) + (capC c N R[i].act.toNat + if 0 ≤ R[i].cond then capC c N R[i].cond.toNat else 0) := by
  unfold sumR
  rw [List.take_add_one, List.getElem?_eq_getElem hi, Option.toList_some, List.map_append, List.sum_append, List.map_cons, List.map_nil, List.sum_cons, List.sum_nil, Nat.add_zero]
theorem sumR_le {c : Nat} {N : List Nd} : ∀ (R : List Ru), sumR c N R ≤ R.length * (2 * c)
  | [] => Nat.zero_le _
  | r :: R => by
    have ih := sumR_le (c := c) (N := N) R
    unfold sumR at *
    have := capC_le c N r.act.toNat
    have := capC_le c N r.cond.toNat
    rw [List.map_cons, List.sum_cons, List.length_cons, Nat.succ_mul]
    split <;> omega
theorem rulesCount_i (hok : programOk ⟨L.map Prod.fst, R⟩ = true) (h : AH) (c : RdG h vN vR L R) :
    CD Tryz.prog 34 [.agg #[vN, vR]] h (.int .i64 (sumR 2002 (L.map Prod.fst) R : Nat)) h := by
  refine CD.quiet ?_ (low_int _ _ _)
  have okG := OkG.of hok
  have hR := okG.r
  have y1 := c.nodes.one
  have y2 := c.rules.one
  have p0 : Pre h (h.alloc (.cells [vN, vR] .solo h.n)) := (Pre.refl h).alloc _
  have b0 : (h.alloc (.cells [vN, vR] .solo h.n)).ob h.n = .cells [vN, vR] .solo h.n := alloc_same _
  have l0 := lt_alloc (h := h) (.cells [vN, vR] .solo h.n)
  have kf := c.rules.rde (fun _ => rfl)
  obtain ⟨Ar, qr, er, _⟩ := kf
  refine CC.ofN Tryz.func34 Tryz.ntmps34 Tryz.results34 rfl (by decide) (by kernel_rfl) ?_
  simp (maxSteps := 1000000) -implicitDefEqProofs only [push_cast, seval, y1, y2]
  repeat (with_reducible refine And.intro ?_ ?_; · (first | omega | decide))
  generalize (h.alloc (.cells [vN, vR] .solo h.n)) = h1 at *
  with_reducible refine CC.mono (countsOf_i hok h1 (c.pre p0)) (fun v h2 hv => ?_)
  have rX := hv.1
  have p2 := hv.2
  clear hv
  have b2 := (p2.ob _ l0).trans b0
  have l2 : h.n < h2.n := Nat.lt_of_lt_of_le l0 p2.n
  subst er
  have pz := p0.trans p2
  simp (maxSteps := 1000000) -implicitDefEqProofs only [push_cast, seval, b2, rd_of b2, rd1_of b2, l2, y1, y2]
  refine WC.loopA (by kernel_rfl) [4, 12] [6, 13, 14, 15, 16, 17, 18, 19, 20, 21, 22, 23, 24, 25, 26, 27, 28, 29, 30, 31, 32, 33] (fun a : Nat × Nat => [.int .i64 (a.2 : Nat), .int .i64 (a.1 : Nat)]) (fun a h' => a.1 ≤ R.length ∧ a.2 = sumR 2002 (L.map Prod.fst) (R.take a.1) ∧ Pre h2 h') (fun a => R.length - a.1) (0, 0) (by kernel_rfl) ⟨Nat.zero_le _, rfl, Pre.refl _⟩ ?_
  intro a gg h3 hJ
  obtain ⟨i, n⟩ := a
  have hi := hJ.1
  have en := hJ.2.1
  have p3 := hJ.2.2
  clear hJ
  simp only at hi en
  have c3 := (c.pre pz).pre p3
  have rX3 := rX.pre p3
  have sl := sumR_le (c := 2002) (N := L.map Prod.fst) (R.take i)
  rw [List.length_take] at sl
  have sl2 : min i R.length * (2 * 2002) ≤ 12 * (2 * 2002) := Nat.mul_le_mul_right _ (by omega)
  simp (maxSteps := 1000000) -implicitDefEqProofs only [push_cast, seval]
  with_reducible refine bcase_d (fun hb => ?_) (fun hb => ?_)
  rotate_left
  · have ei : i = R.length := by omega
    rw [ei, List.take_length] at en
    simp (maxSteps := 1000000) -implicitDefEqProofs only [push_cast, seval]
    rw [en]
    exact ⟨rfl, (pz.trans p3).keep⟩
  have hi' : i < R.length := by omega
  have ss := sumR_succ (c := 2002) (N := L.map Prod.fst) hi'
  have oact := okG.act i hi'
  have ocond := okG.cond i hi'
  have z0 := c3.rules.el (fun _ => rfl) hi'
  generalize R[i] = X at *
  obtain ⟨wh, cd, ac⟩ := X
  simp only at oact ocond ss
  with_reducible refine Exists.elim oact (fun a oact => ?_)
  have ea := oact.1
  have la := oact.2
  clear oact
  subst ea
  with_reducible refine Exists.elim z0 (fun id z0 => ?_)
  with_reducible refine Exists.elim z0 (fun off z0 => ?_)
  with_reducible refine Exists.elim z0 (fun q z0 => ?_)
  have ekv := z0.1
  injection ekv with ekv _ _
  subst ekv
  have lid := z0.2.1
  have rU := z0.2.2
  clear z0
  simp only [encU] at rU
  have q0 := (rd_3 rU).1
  have q1 := (rd_3 rU).2.1
  have q2 := (rd_3 rU).2.2
  have z1 := rX3.el (fun _ => rfl) (i := a) (by rw [List.length_map, List.length_range]; exact la)
  rw [List.getElem_map, List.getElem_range, List.length_map, List.length_range] at z1
  have cl := capC_le 2002 (L.map Prod.fst) a
  with_reducible refine Exists.elim z1 (fun id2 z1 => ?_)
  with_reducible refine Exists.elim z1 (fun off2 z1 => ?_)
  with_reducible refine Exists.elim z1 (fun qq z1 => ?_)
  have ev := z1.1
  subst ev
  have lid2 := z1.2.1
  have rk2 := rd_1 z1.2.2
  clear z1
  have nb : Pre h3 ((h3.alloc (.cells [.int .i64 0, .int .i64 0, .int .i64 0] .solo h3.n)).set h3.n (.cells [.int .i64 wh, .int .i64 cd, .int .i64 (a : Nat)] .solo h3.n)) := ((Pre.refl h3).alloc _).set (Nat.le_refl h3.n) _
  have ob : ((h3.alloc (.cells [.int .i64 0, .int .i64 0, .int .i64 0] .solo h3.n)).set h3.n (.cells [.int .i64 wh, .int .i64 cd, .int .i64 (a : Nat)] .solo h3.n)).ob h3.n = .cells [.int .i64 wh, .int .i64 cd, .int .i64 (a : Nat)] .solo h3.n := set_same _ _
  have nn : ((h3.alloc (.cells [.int .i64 0, .int .i64 0, .int .i64 0] .solo h3.n)).set h3.n (.cells [.int .i64 wh, .int .i64 cd, .int .i64 (a : Nat)] .solo h3.n)).n = h3.n + 1 := rfl
  have rX4 := rX3.pre nb
  simp (maxSteps := 1000000) -implicitDefEqProofs only [push_cast, seval, rU, q0, q1, q2, lid]
  repeat (with_reducible refine And.intro ?_ ?_; · (first | omega | decide))
  generalize ((h3.alloc (.cells [.int .i64 0, .int .i64 0, .int .i64 0] .solo h3.n)).set h3.n (.cells [.int .i64 wh, .int .i64 cd, .int .i64 (a : Nat)] .solo h3.n)) = h4 at *
  have l4 : h3.n < h4.n := by omega
  have lid4 : id2 < h4.n := by omega
  have rk4 : rd1 h4 id2 (off2 + a * 1) = some (.int .i64 (capC 2002 (L.map Prod.fst) a : Nat)) := by rw [nb.rd1 lid2]; exact rk2
  have wq : IntKind.i64.wrap ((n : Int) + (capC 2002 (L.map Prod.fst) a : Nat)) = ((n + capC 2002 (L.map Prod.fst) a : Nat) : Int) := by rw [w64 (by omega) (by omega)]; push_cast; rfl
  with_reducible refine nameN (n + capC 2002 (L.map Prod.fst) a) (fun n1 hn1 => ?_)
  rw [← hn1] at wq
  simp (maxSteps := 1000000) -implicitDefEqProofs only [push_cast, seval, ob, rd_of ob, rd1_of ob, l4, rk4, lid4, wq]
  repeat (with_reducible refine And.intro ?_ ?_; · (first | omega | decide))
  simp (maxSteps := 1000000) -implicitDefEqProofs only [push_cast, seval, ob, rd_of ob, rd1_of ob, l4, rk4, lid4, wq]
  with_reducible refine bcase_d (fun hc => ?_) (fun hc => ?_)
  rotate_left
  · simp (maxSteps := 1000000) -implicitDefEqProofs only [push_cast, seval]
    rw [wrapSucc (by omega)]
    rw [if_neg hc] at ss
    exact ⟨(i + 1, n1), by kernel_rfl, ⟨by show i + 1 ≤ _; omega, by show n1 = _; rw [ss, ← en, hn1]; rfl, p3.trans nb⟩, by show _ - (i + 1) < _ - i; omega⟩
  have hcm : ∃ m : Nat, cd = m ∧ m < L.length := by
    rcases ocond with e | e
    · omega
    · exact e
  with_reducible refine Exists.elim hcm (fun m hcm => ?_)
  have em := hcm.1
  have lm := hcm.2
  clear hcm ocond
  subst em
  have z2 := rX4.el (fun _ => rfl) (i := m) (by rw [List.length_map, List.length_range]; exact lm)
  rw [List.getElem_map, List.getElem_range, List.length_map, List.length_range] at z2
  have cm := capC_le 2002 (L.map Prod.fst) m
  have rk5 : rd1 h4 id2 (off2 + m * 1) = some (.int .i64 (capC 2002 (L.map Prod.fst) m : Nat)) := by
    obtain ⟨a, b, d, e, l, q⟩ := z2
    injection e with e _ _
    injection e with e
    injection e with e1 e2
    subst e1 e2
    exact rd_1 q
  have wq2 : IntKind.i64.wrap ((n1 : Int) + (capC 2002 (L.map Prod.fst) m : Nat)) = ((n1 + capC 2002 (L.map Prod.fst) m : Nat) : Int) := by rw [w64 (by omega) (by omega)]; push_cast; rfl
  with_reducible refine nameN (n1 + capC 2002 (L.map Prod.fst) m) (fun n2 hn2 => ?_)
  rw [← hn2] at wq2
  simp (maxSteps := 1000000) -implicitDefEqProofs only [push_cast, seval, ob, rd_of ob, rd1_of ob, l4, rk5, lid4, wq2]
  repeat (with_reducible refine And.intro ?_ ?_; · (first | omega | decide))
  rw [wrapSucc (by omega)]
  rw [if_pos hc] at ss
  exact ⟨(i + 1, n2), by kernel_rfl, ⟨by show i + 1 ≤ _; omega, by show n2 = _; rw [ss, ← en, hn2, hn1]; exact Nat.add_assoc _ _ _, p3.trans nb⟩, by show _ - (i + 1) < _ - i; omega⟩
end Go.Proofs.YtdlpdfclljnmhaaGreat
namespace Go.Proofs.YtdlpdfclljnmhaaGreat
open Go Go.Sim Go.Proofs
set_option linter.unusedSimpArgs false
set_option linter.unusedVariables false
set_option maxRecDepth 100000
set_option maxHeartbeats 1000000
variable {vN vR : Value} {L : List (Nd × Value)} {R : List Ru} {h h1 h2 h' : AH}
theorem l06Size_s (hok : programOk ⟨L.map Prod.fst, R⟩ = true) (h : AH) (c : RdG h vN vR L R) :
    CD Tryz.prog 28 [.agg #[vN, vR]] h (.int .i64 (sumR 2001 (L.map Prod.fst) R : Nat)) h := by
  refine CD.quiet ?_ (low_int _ _ _)
  have okG := OkG.of hok
  have hL := okG.n
  have hR := okG.r
  have y1 := c.nodes.one
  have y2 := c.rules.one
  have p0 : Pre h (h.alloc (.cells [vN, vR] .solo h.n)) := (Pre.refl h).alloc _
  have kf := c.nodes.rde (fun x => by unfold encD; rfl)
  obtain ⟨An, qn, en, _⟩ := kf
  have kf := c.rules.rde (fun _ => rfl)
  obtain ⟨Ar, qr, er, _⟩ := kf
  refine CC.ofN Tryz.func28 Tryz.ntmps28 Tryz.results28 rfl (by decide) (by kernel_rfl) ?_
  simp (maxSteps := 1000000) -implicitDefEqProofs only [push_cast, seval, y1, y2]
  repeat (with_reducible refine And.intro ?_ ?_; · (first | omega | decide))
  subst en er
  have g0 : Gr (h.n + 1) ((h.alloc (.cells [.slice An L.length qn, .slice Ar R.length qr] .solo h.n)).alloc (.cells [] .solo (h.n + 1))) (.slice (some ⟨h.n + 1, 0, none⟩) 0 1) 1 ((((List.range 0).map (capC 2001 (L.map Prod.fst))).map encNa).flatten) := Gr.new (h := h.alloc _) (Nat.le_refl _) [] 0 1 rfl
  have pz : Pre h ((h.alloc (.cells [.slice An L.length qn, .slice Ar R.length qr] .solo h.n)).alloc (.cells [] .solo (h.n + 1))) := p0.alloc _
  have bz : ((h.alloc (.cells [.slice An L.length qn, .slice Ar R.length qr] .solo h.n)).alloc (.cells [] .solo (h.n + 1))).ob h.n = .cells [.slice An L.length qn, .slice Ar R.length qr] .solo h.n := (alloc_lt _ (lt_alloc _)).trans (alloc_same _)
  have nz : h.n < ((h.alloc (.cells [.slice An L.length qn, .slice Ar R.length qr] .solo h.n)).alloc (.cells [] .solo (h.n + 1))).n := by show h.n < h.n + 1 + 1; omega
  simp (maxSteps := 1000000) -implicitDefEqProofs only [push_cast, seval]
  generalize ((h.alloc (.cells [.slice An L.length qn, .slice Ar R.length qr] .solo h.n)).alloc (.cells [] .solo (h.n + 1))) = hz at *
  refine WC.loopA (by kernel_rfl) [3, 4] [5, 6, 10, 11, 12, 13, 14, 15, 16, 17, 18, 19, 20, 21, 22, 23, 24, 25, 26, 27, 28, 29, 30, 31, 32, 33, 34, 35, 36, 37, 38, 39, 40, 41, 42, 43, 44, 45, 46, 47] (fun a : Nat × Value => [a.2, .int .i64 (a.1 : Nat)]) (fun a h' => a.1 ≤ L.length ∧ Gr (h.n + 1) h' a.2 1 ((((List.range a.1).map (capC 2001 (L.map Prod.fst))).map encNa).flatten) ∧ Pre h h' ∧ h'.ob h.n = .cells [.slice An L.length qn, .slice Ar R.length qr] .solo h.n ∧ h.n < h'.n) (fun a => L.length - a.1) (0, .slice (some ⟨h.n + 1, 0, none⟩) 0 1) (by kernel_rfl) ⟨Nat.zero_le _, g0, pz, bz, nz⟩ ?_
  clear g0 pz nz bz
  intro a gg h2 hJ
  obtain ⟨i, v⟩ := a
  have hi := hJ.1
  have g2 := hJ.2.1
  have p2 := hJ.2.2.1
  have b2 := hJ.2.2.2.1
  have l2 := hJ.2.2.2.2
  clear hJ
  simp only at hi g2
  have c2 := c.pre p2
  simp (maxSteps := 1000000) -implicitDefEqProofs only [push_cast, seval, b2, rd_of b2, rd1_of b2, l2, y1, y2]
  with_reducible refine bcase_d (fun hb => ?_) (fun hb => ?_)
  rotate_left
  · have ei : i = L.length := by omega
    rw [ei] at g2
    have rX : RdV h2 v 1 encNa ((List.range L.length).map (capC 2001 (L.map Prod.fst))) := g2.rdv (by decide) (fun _ => rfl)
    clear g2
    simp (maxSteps := 1000000) -implicitDefEqProofs only [push_cast, seval]
    refine WC.loopA (by kernel_rfl) [7, 8] [48, 49, 50, 51, 52, 53, 54, 55, 56, 57, 58, 59, 60, 61, 62, 63, 64, 65, 66, 67, 68, 69, 70, 71, 72, 73, 74, 75, 76, 77, 78, 79, 80, 81, 82, 83] (fun a : Nat × Nat => [.int .i64 (a.2 : Nat), .int .i64 (a.1 : Nat)]) (fun a h' => a.1 ≤ R.length ∧ a.2 = sumR 2001 (L.map Prod.fst) (R.take a.1) ∧ Pre h2 h') (fun a => R.length - a.1) (0, 0) (by kernel_rfl) ⟨Nat.zero_le _, rfl, Pre.refl _⟩ ?_
    intro a gg3 h3 hJ
    obtain ⟨ir, n⟩ := a
    have hi := hJ.1
    have en := hJ.2.1
    have p3 := hJ.2.2
    clear hJ
    simp only at hi en
    have c3 := c2.pre p3
    have rX3 := rX.pre p3
    have b3 := (p3.ob _ l2).trans b2
    have l3 : h.n < h3.n := Nat.lt_of_lt_of_le l2 p3.n
    have sl := sumR_le (c := 2001) (N := L.map Prod.fst) (R.take ir)
    rw [List.length_take] at sl
    have sl2 : min ir R.length * (2 * 2001) ≤ 12 * (2 * 2001) := Nat.mul_le_mul_right _ (by omega)
    simp (maxSteps := 1000000) -implicitDefEqProofs only [push_cast, seval, b3, rd_of b3, rd1_of b3, l3, y1, y2]
    with_reducible refine bcase_d (fun hb => ?_) (fun hb => ?_)
    rotate_left
    · have ei : ir = R.length := by omega
      rw [ei, List.take_length] at en
      simp (maxSteps := 1000000) -implicitDefEqProofs only [push_cast, seval]
      rw [en]
      exact ⟨rfl, (p2.trans p3).keep⟩
    have hi' : ir < R.length := by omega
    have ss := sumR_succ (c := 2001) (N := L.map Prod.fst) hi'
    have oact := okG.act ir hi'
    have ocond := okG.cond ir hi'
    have z0 := c3.rules.el (fun _ => rfl) hi'
    generalize R[ir] = X at *
    obtain ⟨wh, cd, ac⟩ := X
    simp only at oact ocond ss
    with_reducible refine Exists.elim oact (fun a oact => ?_)
    have ea := oact.1
    have la := oact.2
    clear oact
    subst ea
    with_reducible refine Exists.elim z0 (fun id z0 => ?_)
    with_reducible refine Exists.elim z0 (fun off z0 => ?_)
    with_reducible refine Exists.elim z0 (fun q z0 => ?_)
    have ekv := z0.1
    injection ekv with ekv _ _
    subst ekv
    have lid := z0.2.1
    have rU := z0.2.2
    clear z0
    simp only [encU] at rU
    have q0 := (rd_3 rU).1
    have q1 := (rd_3 rU).2.1
    have q2 := (rd_3 rU).2.2
    have z1 := rX3.el (fun _ => rfl) (i := a) (by rw [List.length_map, List.length_range]; exact la)
    rw [List.getElem_map, List.getElem_range, List.length_map, List.length_range] at z1
    have cl := capC_le 2001 (L.map Prod.fst) a
    with_reducible refine Exists.elim z1 (fun id2 z1 => ?_)
    with_reducible refine Exists.elim z1 (fun off2 z1 => ?_)
    with_reducible refine Exists.elim z1 (fun qq z1 => ?_)
    have ev := z1.1
    subst ev
    have lid2 := z1.2.1
    have rk2 := rd_1 z1.2.2
    clear z1
    have wq : IntKind.i64.wrap ((n : Int) + (capC 2001 (L.map Prod.fst) a : Nat)) = ((n + capC 2001 (L.map Prod.fst) a : Nat) : Int) := by rw [w64 (by omega) (by omega)]; push_cast; rfl
    with_reducible refine nameN (n + capC 2001 (L.map Prod.fst) a) (fun n1 hn1 => ?_)
    rw [← hn1] at wq
    simp (maxSteps := 1000000) -implicitDefEqProofs only [push_cast, seval, b3, rd_of b3, rd1_of b3, l3, y1, y2, q0, q1, q2, lid, rk2, lid2, wq]
    repeat (with_reducible refine And.intro ?_ ?_; · (first | omega | decide))
    with_reducible refine bcase_d (fun hc => ?_) (fun hc => ?_)
    rotate_left
    · simp (maxSteps := 1000000) -implicitDefEqProofs only [push_cast, seval]
      rw [wrapSucc (by omega)]
      rw [if_neg hc] at ss
      exact ⟨(ir + 1, n1), by kernel_rfl, ⟨by show ir + 1 ≤ _; omega, by show n1 = _; rw [ss, ← en, hn1]; rfl, p3⟩, by show _ - (ir + 1) < _ - ir; omega⟩
    have hcm : ∃ m : Nat, cd = m ∧ m < L.length := by
      rcases ocond with e | e
      · omega
      · exact e
    with_reducible refine Exists.elim hcm (fun m hcm => ?_)
    have em := hcm.1
    have lm := hcm.2
    clear hcm ocond
    subst em
    have z2 := rX3.el (fun _ => rfl) (i := m) (by rw [List.length_map, List.length_range]; exact lm)
    rw [List.getElem_map, List.getElem_range, List.length_map, List.length_range] at z2
    have cm := capC_le 2001 (L.map Prod.fst) m
    have rk5 : rd1 h3 id2 (off2 + m * 1) = some (.int .i64 (capC 2001 (L.map Prod.fst) m : Nat)) := by
      obtain ⟨a, b, d, e, l, q⟩ := z2
      injection e with e _ _
      injection e with e
      injection e with e1 e2
      subst e1 e2
      exact rd_1 q
    have wq2 : IntKind.i64.wrap ((n1 : Int) + (capC 2001 (L.map Prod.fst) m : Nat)) = ((n1 + capC 2001 (L.map Prod.fst) m : Nat) : Int) := by rw [w64 (by omega) (by omega)]; push_cast; rfl
    with_reducible refine nameN (n1 + capC 2001 (L.map Prod.fst) m) (fun n2 hn2 => ?_)
    rw [← hn2] at wq2
    simp (maxSteps := 1000000) -implicitDefEqProofs only [push_cast, seval, b3, rd_of b3, rd1_of b3, l3, y1, y2, q0, q1, q2, lid, rk5, lid2, wq2]
    repeat (with_reducible refine And.intro ?_ ?_; · (first | omega | decide))
    rw [wrapSucc (by omega)]
    rw [if_pos hc] at ss
    exact ⟨(ir + 1, n2), by kernel_rfl, ⟨by show ir + 1 ≤ _; omega, by show n2 = _; rw [ss, ← en, hn2, hn1]; exact Nat.add_assoc _ _ _, p3⟩, by show _ - (ir + 1) < _ - ir; omega⟩
  have hi' : i < L.length := by omega
  have okN := OkN.of hok hi'
  have klen := okG.klen i hi'
  have eC := capC_kids hok 2001 hi'
  have zN := c2.nodes.el (fun x => by unfold encD; rfl) hi'
  with_reducible refine Exists.elim zN (fun iN zN => ?_)
  with_reducible refine Exists.elim zN (fun oN zN => ?_)
  with_reducible refine Exists.elim zN (fun qN zN => ?_)
  have eN := zN.1
  injection eN with eN _ _
  subst eN
  have lN := zN.2.1
  have rN := zN.2.2
  clear zN
  simp only [encD] at rN
  have r2 := (rd_3 rN).2.2
  have hx : (L[i].1, L[i].2) ∈ L := List.getElem_mem hi'
  have u1 := (c2.kids _ hx).one
  generalize L[i].1 = x at *
  generalize L[i].2 = kv at *
  have kr := (c2.kids _ hx).rde (fun _ => rfl)
  with_reducible refine Exists.elim kr (fun Ak kr => ?_)
  with_reducible refine Exists.elim kr (fun ck kr => ?_)
  have ekv : kv = .slice Ak x.kids.length ck := kr.1
  clear kr
  subst ekv
  simp (maxSteps := 1000000) -implicitDefEqProofs only [push_cast, seval]
  refine WC.loopA (by kernel_rfl) [5, 6] [17, 18, 19, 20, 21, 22, 23, 24, 25, 26, 27, 28, 29, 30, 31, 32, 33, 34, 35, 36, 37, 38, 39, 40, 41] (fun a : Nat × Nat => [.int .i64 (a.2 : Nat), .int .i64 (a.1 : Nat)]) (fun a h' => a.1 ≤ x.kids.length ∧ a.2 = 1 + ((x.kids.take a.1).map fun a => capC 2001 (L.map Prod.fst) a.toNat).sum ∧ Pre h2 h') (fun a => x.kids.length - a.1) (0, 1) (by kernel_rfl) ⟨Nat.zero_le _, rfl, Pre.refl _⟩ ?_
  intro a gg2 h4 hJ
  obtain ⟨k, n⟩ := a
  have hk := hJ.1
  have en := hJ.2.1
  have p4 := hJ.2.2
  clear hJ
  simp only at hk en
  have c4 := c2.pre p4
  have b4 := (p4.ob _ l2).trans b2
  have l4 : h.n < h4.n := Nat.lt_of_lt_of_le l2 p4.n
  have lN4 : iN < h4.n := Nat.lt_of_lt_of_le lN p4.n
  have r24 : rd1 h4 iN (oN + i * 3 + 2) = some (.slice Ak x.kids.length ck) := by rw [p4.rd1 lN]; exact r2
  have g4 := g2.keep p4.n (fun i e => p4.ob i (g2.range e).2)
  have sl := sum_le_c (c := 2001) (N := L.map Prod.fst) (x.kids.take k)
  rw [List.length_take] at sl
  have sl2 : min k x.kids.length * 2001 ≤ 20 * 2001 := Nat.mul_le_mul_right _ (by omega)
  simp (maxSteps := 1000000) -implicitDefEqProofs only [push_cast, seval, b4, rd_of b4, rd1_of b4, l4, y1, y2, r24, lN4, u1]
  repeat (with_reducible refine And.intro ?_ ?_; · (first | omega | decide))
  simp (maxSteps := 1000000) -implicitDefEqProofs only [push_cast, seval, b4, rd_of b4, rd1_of b4, l4, y1, y2, r24, lN4, u1]
  with_reducible refine bcase_d (fun hb2 => ?_) (fun hb2 => ?_)
  · have hk' : k < x.kids.length := by omega
    have kk := okN.kid k hk'
    with_reducible refine Exists.elim kk (fun j kk => ?_)
    have ej := kk.1
    have lj := kk.2.1
    have ts := capC_take (c := 2001) (N := L.map Prod.fst) hk' ej
    have cl := capC_le 2001 (L.map Prod.fst) j
    have rX : RdV h4 v 1 encNa ((List.range i).map (capC 2001 (L.map Prod.fst))) := g4.rdv (by decide) (fun _ => rfl)
    have z1 := rX.el (fun _ => rfl) (i := j) (by rw [List.length_map, List.length_range]; exact lj)
    rw [List.getElem_map, List.getElem_range, List.length_map, List.length_range] at z1
    have z0 := kid_g c4 hx hk' ej
    with_reducible refine Exists.elim z0 (fun id z0 => ?_)
    with_reducible refine Exists.elim z0 (fun off z0 => ?_)
    with_reducible refine Exists.elim z0 (fun q z0 => ?_)
    have ekv := z0.1
    injection ekv with ekv _ _
    subst ekv
    have lid := z0.2.1
    have rk := z0.2.2
    clear z0
    with_reducible refine Exists.elim z1 (fun id2 z1 => ?_)
    with_reducible refine Exists.elim z1 (fun off2 z1 => ?_)
    with_reducible refine Exists.elim z1 (fun q2 z1 => ?_)
    have ev := z1.1
    subst ev
    have lid2 := z1.2.1
    have rk2 := rd_1 z1.2.2
    clear z1
    simp (maxSteps := 1000000) -implicitDefEqProofs only [push_cast, seval, b4, rd_of b4, rd1_of b4, l4, y1, y2, r24, lN4, u1, rk, lid, rk2, lid2]
    repeat (with_reducible refine And.intro ?_ ?_; · (first | omega | decide))
    rw [wrapSucc (by omega)]
    have wq : IntKind.i64.wrap ((n : Int) + (capC 2001 (L.map Prod.fst) j : Nat)) = ((n + capC 2001 (L.map Prod.fst) j : Nat) : Int) := by rw [w64 (by omega) (by omega)]; push_cast; rfl
    rw [wq]
    exact ⟨(k + 1, n + capC 2001 (L.map Prod.fst) j), by kernel_rfl, ⟨by show k + 1 ≤ _; omega, by show n + _ = _; rw [ts, en]; omega, p4⟩, by show _ - (k + 1) < _ - k; omega⟩
  have ek : k = x.kids.length := by omega
  rw [ek, List.take_length] at en
  simp (maxSteps := 1000000) -implicitDefEqProofs only [push_cast, seval]
  with_reducible refine bcase_d (fun hm => ?_) (fun hm => ?_)
  · simp (maxSteps := 1000000) -implicitDefEqProofs only [push_cast, seval]
    have em : 2001 = capC 2001 (L.map Prod.fst) i := by rw [eC, ← en]; omega
    have xl : ((((List.range i).map (capC 2001 (L.map Prod.fst))).map encNa).flatten).length = i * 1 := by
      rw [flat_len (k := 1) _ (fun _ => rfl), List.length_map, List.length_range]
    refine Gr.app1 (h0 := ⟨h.n + 1, h4.ob⟩) si62 (by decide) (by decide) (notInt_sl und62) g4 ⟨by show h.n + 1 ≤ h4.n; omega, fun _ _ => rfl⟩ rfl (by rw [xl]; omega) (by decide) (fun h5 gr ow p5 n5 he => ?_)
    have el : ((((List.range i).map (capC 2001 (L.map Prod.fst))).map encNa).flatten).length / 1 + 1 = i + 1 := by rw [xl]; omega
    rw [el] at gr ⊢
    simp (maxSteps := 1000000) -implicitDefEqProofs only [push_cast, seval]
    rw [wrapSucc (by omega)]
    have g5 : Gr (h.n + 1) h5 (.slice (some ⟨h4.n + 1, 0, none⟩) (i + 1) 1) 1 ((((List.range (i + 1)).map (capC 2001 (L.map Prod.fst))).map encNa).flatten) := by
      rw [List.range_succ, List.map_append, List.map_append, List.flatten_append, List.map_cons, List.map_cons, ← em]; exact gr
    have lo5 : ∀ j, j < h.n + 1 → h5.ob j = h4.ob j := fun j hj => he j (by omega) (fun e => by have := g4.range e; omega)
    have p5' : Pre h h5 := ⟨by omega, fun j hj => (lo5 j (by omega)).trans ((p2.trans p4).ob j hj)⟩
    exact ⟨(i + 1, .slice (some ⟨h4.n + 1, 0, none⟩) (i + 1) 1), by kernel_rfl, ⟨by show i + 1 ≤ _; omega, g5, p5', (lo5 h.n (by omega)).trans b4, by omega⟩, by show _ - (i + 1) < _ - i; omega⟩
  simp (maxSteps := 1000000) -implicitDefEqProofs only [push_cast, seval]
  have em : n = capC 2001 (L.map Prod.fst) i := by rw [eC, ← en]; omega
  have xl : ((((List.range i).map (capC 2001 (L.map Prod.fst))).map encNa).flatten).length = i * 1 := by
    rw [flat_len (k := 1) _ (fun _ => rfl), List.length_map, List.length_range]
  refine Gr.app1 (h0 := ⟨h.n + 1, h4.ob⟩) si62 (by decide) (by decide) (notInt_sl und62) g4 ⟨by show h.n + 1 ≤ h4.n; omega, fun _ _ => rfl⟩ rfl (by rw [xl]; omega) (by decide) (fun h5 gr ow p5 n5 he => ?_)
  have el : ((((List.range i).map (capC 2001 (L.map Prod.fst))).map encNa).flatten).length / 1 + 1 = i + 1 := by rw [xl]; omega
  rw [el] at gr ⊢
  simp (maxSteps := 1000000) -implicitDefEqProofs only [push_cast, seval]
  rw [wrapSucc (by omega)]
  have g5 : Gr (h.n + 1) h5 (.slice (some ⟨h4.n + 1, 0, none⟩) (i + 1) 1) 1 ((((List.range (i + 1)).map (capC 2001 (L.map Prod.fst))).map encNa).flatten) := by
    rw [List.range_succ, List.map_append, List.map_append, List.flatten_append, List.map_cons, List.map_cons, ← em]; exact gr
  have lo5 : ∀ j, j < h.n + 1 → h5.ob j = h4.ob j := fun j hj => he j (by omega) (fun e => by have := g4.range e; omega)
  have p5' : Pre h h5 := ⟨by omega, fun j hj => (lo5 j (by omega)).trans ((p2.trans p4).ob j hj)⟩
  exact ⟨(i + 1, .slice (some ⟨h4.n + 1, 0, none⟩) (i + 1) 1), by kernel_rfl, ⟨by show i + 1 ≤ _; omega, g5, p5', (lo5 h.n (by omega)).trans b4, by omega⟩, by show _ - (i + 1) < _ - i; omega⟩
end Go.Proofs.YtdlpdfclljnmhaaGreat
namespace Go.Proofs.YtdlpdfclljnmhaaGreat
open Go Go.Sim Go.Proofs
set_option linter.unusedSimpArgs false
set_option linter.unusedVariables false
set_option maxRecDepth 100000
set_option maxHeartbeats 1000000
variable {vN vR : Value} {L : List (Nd × Value)} {R : List Ru} {h h1 h2 h' : AH}
/-- What a right program's rule is. -/
structure OkR (N : List Nd) (r : Ru) : Prop where
  act : ∃ m : Nat, r.act = m ∧ m < N.length ∧ isEx (nd N m).op = false
  cond : r.cond = -1 ∨ ∃ m : Nat, r.cond = m ∧ m < N.length ∧ isEx (nd N m).op = true
theorem OkR.of (hok : programOk ⟨L.map Prod.fst, R⟩ = true) {i : Nat} (hi : i < R.length) : OkR (L.map Prod.fst) R[i] := by
  rw [programOk_split] at hok
  simp only [Bool.and_eq_true, decide_eq_true_eq] at hok
  have h4 := hok.2
  rw [List.all_eq_true] at h4
  have := h4 _ (List.getElem_mem hi)
  generalize R[i] = r at *
  simp only [ruleP, Bool.and_eq_true, Bool.or_eq_true, decide_eq_true_eq] at this
  obtain ⟨⟨⟨a1, a2⟩, a3⟩, a4⟩ := this
  obtain ⟨m, e, hm⟩ := inB_nat a2
  refine ⟨⟨m, e, by omega, ?_⟩, ?_⟩
  · rw [e] at a3
    have : (nd (L.map Prod.fst) m).op = 24 := a3
    rw [this]; rfl
  · rcases a4 with a4 | ⟨⟨_, b2⟩, b3⟩
    · exact .inl a4
    · obtain ⟨c, ec, hc⟩ := inB_nat b2
      refine .inr ⟨c, ec, by omega, ?_⟩
      rw [ec] at b3
      exact b3

theorem showR_succ {N : List Nd} {i : Nat} (hi : i < R.length) : showR N (R.take (i + 1)) = showR N (R.take i) ++ ruleT N R[i] ++ (shS N N.length R[i].act.toNat ++ (⟨#[10]⟩ : ByteArray)) := by
  unfold showR
  rw [List.take_add_one, List.getElem?_eq_getElem hi, Option.toList_some, List.foldl_append]
  rfl
theorem showOk_of {c : Nat} (hP : programOk ⟨L.map Prod.fst, R⟩ = true) (hc : 2001 ≤ c) : showOk (L.map Prod.fst) R = !decide ((2000 : Int) < (sumR c (L.map Prod.fst) R : Nat)) := by
  have := sumR_2000 (L.map Prod.fst) R c hc
  unfold showOk
  rw [hP, Bool.true_and]
  by_cases e : cntAll (L.map Prod.fst) R ≤ 2000
  · rw [decide_eq_true e, decide_eq_false (by omega)]; rfl
  · rw [decide_eq_false e, decide_eq_true (by omega)]; rfl
theorem cntR_le {N : List Nd} {i : Nat} (hi : i < R.length) (h : cntAll N R ≤ 2000) : cnt N N.length R[i].act.toNat ≤ 2000 ∧ (0 ≤ R[i].cond → cnt N N.length R[i].cond.toNat ≤ 2000) := by
  have := sum_map_le (cntR N) R _ (List.getElem_mem hi)
  unfold cntAll at h
  have h2 : cntR N R[i] ≤ 2000 := by omega
  unfold cntR at h2
  exact ⟨by omega, fun e => by rw [if_pos e] at h2; omega⟩
theorem newbox3 (h : AH) (wh cd : Int) (a : Nat) : Pre h ((h.alloc (.cells [.int .i64 0, .int .i64 0, .int .i64 0] .solo h.n)).set h.n (.cells [.int .i64 wh, .int .i64 cd, .int .i64 (a : Nat)] .solo h.n)) ∧ ((h.alloc (.cells [.int .i64 0, .int .i64 0, .int .i64 0] .solo h.n)).set h.n (.cells [.int .i64 wh, .int .i64 cd, .int .i64 (a : Nat)] .solo h.n)).ob h.n = .cells [.int .i64 wh, .int .i64 cd, .int .i64 (a : Nat)] .solo h.n ∧ ((h.alloc (.cells [.int .i64 0, .int .i64 0, .int .i64 0] .solo h.n)).set h.n (.cells [.int .i64 wh, .int .i64 cd, .int .i64 (a : Nat)] .solo h.n)).n = h.n + 1 :=
  ⟨((Pre.refl h).alloc _).set (Nat.le_refl _) _, set_same _ _, rfl⟩
theorem ShowProgram_s (h : AH) (c : RdG h vN vR L R) (hz : SzG L R) :
    CC Tryz.prog 8 [.agg #[vN, vR]] h (fun v h' => v = .tuple #[.string (showP (L.map Prod.fst) R), .bool (showOk (L.map Prod.fst) R)] ∧ Pre h h') := by
  have y1 := c.nodes.one
  have y2 := c.rules.one
  have p0 : Pre h (h.alloc (.cells [vN, vR] .solo h.n)) := (Pre.refl h).alloc _
  have b0 : (h.alloc (.cells [vN, vR] .solo h.n)).ob h.n = .cells [vN, vR] .solo h.n := alloc_same _
  have l0 := lt_alloc (h := h) (.cells [vN, vR] .solo h.n)
  refine CC.ofN Tryz.func8 Tryz.ntmps8 Tryz.results8 rfl (by decide) (by kernel_rfl) ?_
  simp (maxSteps := 1000000) -implicitDefEqProofs only [push_cast, seval, y1, y2]
  repeat (with_reducible refine And.intro ?_ ?_; · (first | omega | decide))
  generalize (h.alloc (.cells [vN, vR] .solo h.n)) = h1 at *
  have c1 := c.pre p0
  with_reducible refine CD.to (ProgramOk_s L R vN vR h1 c1 hz) ?_
  cases hP : programOk ⟨L.map Prod.fst, R⟩ with
  | false =>
    have e1 : showOk (L.map Prod.fst) R = false := by unfold showOk; rw [hP]; rfl
    have e2 : showP (L.map Prod.fst) R = ⟨#[]⟩ := by unfold showP; rw [if_neg (by rw [e1]; decide)]
    rw [e1, e2]
    simp (maxSteps := 1000000) -implicitDefEqProofs only [push_cast, seval, b0, rd_of b0, rd1_of b0, l0, y1, y2]
    exact p0
  | true =>
  have hS := showOk_of (c := 2001) hP (by omega)
  have okG := OkG.of hP
  have hR := okG.r
  simp (maxSteps := 1000000) -implicitDefEqProofs only [push_cast, seval, b0, rd_of b0, rd1_of b0, l0, y1, y2]
  with_reducible refine CD.to (l06Size_s hP h1 c1) ?_
  simp (maxSteps := 1000000) -implicitDefEqProofs only [push_cast, seval, b0, rd_of b0, rd1_of b0, l0, y1, y2]
  with_reducible refine bcase_d (fun hb => ?_) (fun hb => ?_)
  · have e1 : showOk (L.map Prod.fst) R = false := by rw [hS, decide_eq_true hb]; rfl
    have e2 : showP (L.map Prod.fst) R = ⟨#[]⟩ := by unfold showP; rw [if_neg (by rw [e1]; decide)]
    rw [e1, e2]
    simp (maxSteps := 1000000) -implicitDefEqProofs only [push_cast, seval]
    exact p0
  have e1 : showOk (L.map Prod.fst) R = true := by rw [hS, decide_eq_false hb]; rfl
  have e2 : showP (L.map Prod.fst) R = showR (L.map Prod.fst) R := by unfold showP; rw [if_pos e1]
  have hA : cntAll (L.map Prod.fst) R ≤ 2000 := by
    unfold showOk at e1
    simp only [Bool.and_eq_true, decide_eq_true_eq] at e1
    exact e1.2
  rw [e1, e2]
  have kf := c.rules.rde (fun _ => rfl)
  with_reducible refine Exists.elim kf (fun Ar kf => ?_)
  with_reducible refine Exists.elim kf (fun qr kf => ?_)
  have er := kf.1
  clear kf
  subst er
  simp (maxSteps := 1000000) -implicitDefEqProofs only [push_cast, seval, b0, rd_of b0, rd1_of b0, l0, y1, y2]
  refine WC.loopA (by kernel_rfl) [4, 5] [6, 15, 16, 17, 18, 19, 20, 21, 22, 23, 24, 25, 26, 27, 28, 29, 30, 31, 32, 33, 34, 35, 36, 37, 38, 39, 40, 41, 42, 43, 44, 45, 46, 47, 48, 49, 50, 51, 52, 53, 54, 55, 56] (fun a : Nat × ByteArray => [.string a.2, .int .i64 (a.1 : Nat)]) (fun a h' => a.1 ≤ R.length ∧ a.2 = showR (L.map Prod.fst) (R.take a.1) ∧ a.2.size ≤ a.1 * 5000000000 ∧ Pre h1 h') (fun a => R.length - a.1) (0, ⟨#[]⟩) (by kernel_rfl) ⟨Nat.zero_le _, rfl, Nat.zero_le _, Pre.refl _⟩ ?_
  intro a gg h2 hJ
  obtain ⟨i, t⟩ := a
  have hi := hJ.1
  have eT := hJ.2.1
  have zT := hJ.2.2.1
  have p2 := hJ.2.2.2
  clear hJ
  simp only at hi eT zT
  have c2 := c1.pre p2
  have b2 := (p2.ob _ l0).trans b0
  have l2 : h.n < h2.n := Nat.lt_of_lt_of_le l0 p2.n
  simp (maxSteps := 1000000) -implicitDefEqProofs only [push_cast, seval, b2, rd_of b2, rd1_of b2, l2, y1, y2]
  with_reducible refine bcase_d (fun hb2 => ?_) (fun hb2 => ?_)
  rotate_left
  · have ei : i = R.length := by omega
    rw [ei, List.take_length] at eT
    simp (maxSteps := 1000000) -implicitDefEqProofs only [push_cast, seval]
    rw [eT]
    exact ⟨rfl, p0.trans p2⟩
  have hi' : i < R.length := by omega
  have ss := showR_succ (N := L.map Prod.fst) hi'
  have oR := OkR.of hP hi'
  have oact := oR.act
  have ocond := oR.cond
  have cR := cntR_le (N := L.map Prod.fst) hi' hA
  have z0 := c2.rules.el (fun _ => rfl) hi'
  generalize R[i] = X at *
  obtain ⟨wh, cd, ac⟩ := X
  simp only at oact ocond ss cR
  with_reducible refine Exists.elim oact (fun a oact => ?_)
  have ea := oact.1
  have la := oact.2.1
  have xa := oact.2.2
  clear oact
  subst ea
  have la' : a < L.length := by rw [List.length_map] at la; exact la
  with_reducible refine Exists.elim z0 (fun id z0 => ?_)
  with_reducible refine Exists.elim z0 (fun off z0 => ?_)
  with_reducible refine Exists.elim z0 (fun q z0 => ?_)
  have ekv := z0.1
  injection ekv with ekv _ _
  subst ekv
  have lid := z0.2.1
  have rU := z0.2.2
  clear z0
  simp only [encU] at rU
  have q0 := (rd_3 rU).1
  have q1 := (rd_3 rU).2.1
  have q2 := (rd_3 rU).2.2
  have ls := lit_sizes
  have zS := Nat.le_trans (shS_size hP hz.text a la' xa (L.map Prod.fst).length la) (Nat.mul_le_mul_left 1048640 (show cnt (L.map Prod.fst) (L.map Prod.fst).length a ≤ 2001 by have := cR.1; simpa using (Nat.le_succ_of_le this)))
  have nb := newbox3 h2 wh cd a
  have pb := nb.1
  have ob := nb.2.1
  have nn := nb.2.2
  clear nb
  simp (maxSteps := 1000000) -implicitDefEqProofs only [push_cast, seval, b2, rd_of b2, rd1_of b2, l2, y1, y2, rU, q0, q1, q2, lid]
  repeat (with_reducible refine And.intro ?_ ?_; · (first | omega | decide))
  generalize ((h2.alloc (.cells [.int .i64 0, .int .i64 0, .int .i64 0] .solo h2.n)).set h2.n (.cells [.int .i64 wh, .int .i64 cd, .int .i64 (a : Nat)] .solo h2.n)) = h4 at *
  have c4 := c2.pre pb
  have l4 : h2.n < h4.n := by omega
  have b4 := (pb.ob _ l2).trans b2
  have lh4 : h.n < h4.n := by omega
  have ca : cnt (L.map Prod.fst) (L.map Prod.fst).length a ≤ 2001 := by have := cR.1; simpa using (Nat.le_succ_of_le this)
  have ES := showSt_s (vN := vN) (vR := (.slice (some ⟨id, off, none⟩) R.length qr)) hP hz.text a la' xa (L.map Prod.fst).length la ca
  unfold ShX at ES
  with_reducible refine bcase_d (fun o1 => ?_) (fun o1 => ?_)
  · simp (maxSteps := 1000000) -implicitDefEqProofs only [push_cast, seval]
    simp (maxSteps := 1000000) -implicitDefEqProofs only [push_cast, seval, ob, rd_of ob, rd1_of ob, l4, b4, rd_of b4, rd1_of b4, lh4, y1, y2]
    repeat (with_reducible refine And.intro (by first | omega | (simp only [ByteArray.size_append]; omega)) ?_)
    with_reducible refine CD.to (ES h4 c4) ?_
    simp (maxSteps := 1000000) -implicitDefEqProofs only [push_cast, seval]
    repeat (with_reducible refine And.intro (by first | omega | (simp only [ByteArray.size_append]; omega)) ?_)
    rw [wrapSucc (by omega)]
    have eR : ruleT (L.map Prod.fst) ⟨wh, cd, (a : Int)⟩ = (⟨#[66, 69, 71, 73, 78, 32]⟩ : ByteArray) := by unfold ruleT; rw [if_pos o1]
    refine ⟨(i + 1, t ++ (⟨#[66, 69, 71, 73, 78, 32]⟩ : ByteArray) ++ shS (L.map Prod.fst) (L.map Prod.fst).length a ++ (⟨#[10]⟩ : ByteArray)), by kernel_rfl, ⟨by show i + 1 ≤ _; omega, ?_, by show (t ++ (⟨#[66, 69, 71, 73, 78, 32]⟩ : ByteArray) ++ shS (L.map Prod.fst) (L.map Prod.fst).length a ++ (⟨#[10]⟩ : ByteArray)).size ≤ (i + 1) * _; simp only [ByteArray.size_append]; omega, p2.trans pb⟩, by show _ - (i + 1) < _ - i; omega⟩
    show t ++ (⟨#[66, 69, 71, 73, 78, 32]⟩ : ByteArray) ++ shS (L.map Prod.fst) (L.map Prod.fst).length a ++ (⟨#[10]⟩ : ByteArray) = _
    rw [ss, eR, ← eT]
    exact ba_assoc _ _ _
  simp (maxSteps := 1000000) -implicitDefEqProofs only [push_cast, seval, ob, rd_of ob, rd1_of ob, l4, b4, rd_of b4, rd1_of b4, lh4, y1, y2]
  with_reducible refine bcase_d (fun o3 => ?_) (fun o3 => ?_)
  · simp (maxSteps := 1000000) -implicitDefEqProofs only [push_cast, seval]
    simp (maxSteps := 1000000) -implicitDefEqProofs only [push_cast, seval, ob, rd_of ob, rd1_of ob, l4, b4, rd_of b4, rd1_of b4, lh4, y1, y2]
    repeat (with_reducible refine And.intro (by first | omega | (simp only [ByteArray.size_append]; omega)) ?_)
    with_reducible refine CD.to (ES h4 c4) ?_
    simp (maxSteps := 1000000) -implicitDefEqProofs only [push_cast, seval]
    repeat (with_reducible refine And.intro (by first | omega | (simp only [ByteArray.size_append]; omega)) ?_)
    rw [wrapSucc (by omega)]
    have eR : ruleT (L.map Prod.fst) ⟨wh, cd, (a : Int)⟩ = (⟨#[69, 78, 68, 32]⟩ : ByteArray) := by unfold ruleT; rw [if_neg o1, if_pos o3]
    refine ⟨(i + 1, t ++ (⟨#[69, 78, 68, 32]⟩ : ByteArray) ++ shS (L.map Prod.fst) (L.map Prod.fst).length a ++ (⟨#[10]⟩ : ByteArray)), by kernel_rfl, ⟨by show i + 1 ≤ _; omega, ?_, by show (t ++ (⟨#[69, 78, 68, 32]⟩ : ByteArray) ++ shS (L.map Prod.fst) (L.map Prod.fst).length a ++ (⟨#[10]⟩ : ByteArray)).size ≤ (i + 1) * _; simp only [ByteArray.size_append]; omega, p2.trans pb⟩, by show _ - (i + 1) < _ - i; omega⟩
    show t ++ (⟨#[69, 78, 68, 32]⟩ : ByteArray) ++ shS (L.map Prod.fst) (L.map Prod.fst).length a ++ (⟨#[10]⟩ : ByteArray) = _
    rw [ss, eR, ← eT]
    exact ba_assoc _ _ _
  simp (maxSteps := 1000000) -implicitDefEqProofs only [push_cast, seval, ob, rd_of ob, rd1_of ob, l4, b4, rd_of b4, rd1_of b4, lh4, y1, y2]
  with_reducible refine bcase_d (fun oc => ?_) (fun oc => ?_)
  rotate_left
  · simp (maxSteps := 1000000) -implicitDefEqProofs only [push_cast, seval, ob, rd_of ob, rd1_of ob, l4, b4, rd_of b4, rd1_of b4, lh4, y1, y2]
    repeat (with_reducible refine And.intro (by first | omega | (simp only [ByteArray.size_append]; omega)) ?_)
    with_reducible refine CD.to (ES h4 c4) ?_
    simp (maxSteps := 1000000) -implicitDefEqProofs only [push_cast, seval]
    repeat (with_reducible refine And.intro (by first | omega | (simp only [ByteArray.size_append]; omega)) ?_)
    rw [wrapSucc (by omega)]
    have eR : ruleT (L.map Prod.fst) ⟨wh, cd, (a : Int)⟩ = ⟨#[]⟩ := by unfold ruleT; rw [if_neg o1, if_neg o3, if_neg oc]
    refine ⟨(i + 1, t ++ shS (L.map Prod.fst) (L.map Prod.fst).length a ++ (⟨#[10]⟩ : ByteArray)), by kernel_rfl, ⟨by show i + 1 ≤ _; omega, ?_, by show (t ++ shS (L.map Prod.fst) (L.map Prod.fst).length a ++ (⟨#[10]⟩ : ByteArray)).size ≤ (i + 1) * _; simp only [ByteArray.size_append]; omega, p2.trans pb⟩, by show _ - (i + 1) < _ - i; omega⟩
    show t ++ shS (L.map Prod.fst) (L.map Prod.fst).length a ++ (⟨#[10]⟩ : ByteArray) = _
    rw [ss, eR, ← eT]
    rw [ba_nil]
    exact ba_assoc _ _ _
  have hcm : ∃ m : Nat, cd = m ∧ m < (L.map Prod.fst).length ∧ isEx (nd (L.map Prod.fst) m).op = true := by
    rcases ocond with e | e
    · omega
    · exact e
  with_reducible refine Exists.elim hcm (fun m hcm => ?_)
  have em := hcm.1
  have lm := hcm.2.1
  have xm := hcm.2.2
  clear hcm ocond
  subst em
  have lm' : m < L.length := by rw [List.length_map] at lm; exact lm
  have cm : cnt (L.map Prod.fst) (L.map Prod.fst).length m ≤ 2001 := by have := cR.2 oc; simpa using (Nat.le_succ_of_le this)
  have EE := showEx_s (vN := vN) (vR := (.slice (some ⟨id, off, none⟩) R.length qr)) hP hz.text m lm' xm (L.map Prod.fst).length lm cm
  unfold ShX at EE
  have zE := Nat.le_trans (shE_size hP hz.text m lm' xm (L.map Prod.fst).length lm).1 (Nat.mul_le_mul_left 1048640 cm)
  simp (maxSteps := 1000000) -implicitDefEqProofs only [push_cast, seval, ob, rd_of ob, rd1_of ob, l4, b4, rd_of b4, rd1_of b4, lh4, y1, y2]
  with_reducible refine CD.to (EE h4 c4) ?_
  simp (maxSteps := 1000000) -implicitDefEqProofs only [push_cast, seval]
  repeat (with_reducible refine And.intro (by first | omega | (simp only [ByteArray.size_append]; omega)) ?_)
  simp (maxSteps := 1000000) -implicitDefEqProofs only [push_cast, seval, ob, rd_of ob, rd1_of ob, l4, b4, rd_of b4, rd1_of b4, lh4, y1, y2]
  repeat (with_reducible refine And.intro (by first | omega | (simp only [ByteArray.size_append]; omega)) ?_)
  with_reducible refine CD.to (ES h4 c4) ?_
  simp (maxSteps := 1000000) -implicitDefEqProofs only [push_cast, seval]
  repeat (with_reducible refine And.intro (by first | omega | (simp only [ByteArray.size_append]; omega)) ?_)
  rw [wrapSucc (by omega)]
  have eR : ruleT (L.map Prod.fst) ⟨wh, (m : Int), (a : Int)⟩ = shE (L.map Prod.fst) (L.map Prod.fst).length m ++ (⟨#[32]⟩ : ByteArray) := by unfold ruleT; rw [if_neg o1, if_neg o3, if_pos oc]; rfl
  refine ⟨(i + 1, t ++ shE (L.map Prod.fst) (L.map Prod.fst).length m ++ (⟨#[32]⟩ : ByteArray) ++ shS (L.map Prod.fst) (L.map Prod.fst).length a ++ (⟨#[10]⟩ : ByteArray)), by kernel_rfl, ⟨by show i + 1 ≤ _; omega, ?_, by show (t ++ shE (L.map Prod.fst) (L.map Prod.fst).length m ++ (⟨#[32]⟩ : ByteArray) ++ shS (L.map Prod.fst) (L.map Prod.fst).length a ++ (⟨#[10]⟩ : ByteArray)).size ≤ (i + 1) * _; simp only [ByteArray.size_append]; omega, p2.trans pb⟩, by show _ - (i + 1) < _ - i; omega⟩
  show t ++ shE (L.map Prod.fst) (L.map Prod.fst).length m ++ (⟨#[32]⟩ : ByteArray) ++ shS (L.map Prod.fst) (L.map Prod.fst).length a ++ (⟨#[10]⟩ : ByteArray) = _
  rw [ss, eR, ← eT]
  exact (ba_assoc _ _ _).trans (congrArg (· ++ _) (ba_assoc _ _ _))
theorem ShowProgram_i (h : AH) (c : RdG h vN vR L R) (hz : SzG L R) :
    CC Tryz.prog 10 [.agg #[vN, vR]] h (fun v h' => v = .tuple #[.string (showP (L.map Prod.fst) R), .bool (showOk (L.map Prod.fst) R)] ∧ Pre h h') := by
  have y1 := c.nodes.one
  have y2 := c.rules.one
  have p0 : Pre h (h.alloc (.cells [vN, vR] .solo h.n)) := (Pre.refl h).alloc _
  have b0 : (h.alloc (.cells [vN, vR] .solo h.n)).ob h.n = .cells [vN, vR] .solo h.n := alloc_same _
  have l0 := lt_alloc (h := h) (.cells [vN, vR] .solo h.n)
  refine CC.ofN Tryz.func10 Tryz.ntmps10 Tryz.results10 rfl (by decide) (by kernel_rfl) ?_
  simp (maxSteps := 1000000) -implicitDefEqProofs only [push_cast, seval, y1, y2]
  repeat (with_reducible refine And.intro ?_ ?_; · (first | omega | decide))
  generalize (h.alloc (.cells [vN, vR] .solo h.n)) = h1 at *
  have c1 := c.pre p0
  with_reducible refine CD.to (ProgramOk_i L R vN vR h1 c1 hz) ?_
  cases hP : programOk ⟨L.map Prod.fst, R⟩ with
  | false =>
    have e1 : showOk (L.map Prod.fst) R = false := by unfold showOk; rw [hP]; rfl
    have e2 : showP (L.map Prod.fst) R = ⟨#[]⟩ := by unfold showP; rw [if_neg (by rw [e1]; decide)]
    rw [e1, e2]
    simp (maxSteps := 1000000) -implicitDefEqProofs only [push_cast, seval, b0, rd_of b0, rd1_of b0, l0, y1, y2]
    exact p0
  | true =>
  have hS := showOk_of (c := 2002) hP (by omega)
  have okG := OkG.of hP
  have hR := okG.r
  simp (maxSteps := 1000000) -implicitDefEqProofs only [push_cast, seval, b0, rd_of b0, rd1_of b0, l0, y1, y2]
  with_reducible refine CD.to (rulesCount_i hP h1 c1) ?_
  simp (maxSteps := 1000000) -implicitDefEqProofs only [push_cast, seval, b0, rd_of b0, rd1_of b0, l0, y1, y2]
  with_reducible refine bcase_d (fun hb => ?_) (fun hb => ?_)
  · have e1 : showOk (L.map Prod.fst) R = false := by rw [hS, decide_eq_true hb]; rfl
    have e2 : showP (L.map Prod.fst) R = ⟨#[]⟩ := by unfold showP; rw [if_neg (by rw [e1]; decide)]
    rw [e1, e2]
    simp (maxSteps := 1000000) -implicitDefEqProofs only [push_cast, seval]
    exact p0
  have e1 : showOk (L.map Prod.fst) R = true := by rw [hS, decide_eq_false hb]; rfl
  have e2 : showP (L.map Prod.fst) R = showR (L.map Prod.fst) R := by unfold showP; rw [if_pos e1]
  have hA : cntAll (L.map Prod.fst) R ≤ 2000 := by
    unfold showOk at e1
    simp only [Bool.and_eq_true, decide_eq_true_eq] at e1
    exact e1.2
  rw [e1, e2]
  have kf := c.rules.rde (fun _ => rfl)
  with_reducible refine Exists.elim kf (fun Ar kf => ?_)
  with_reducible refine Exists.elim kf (fun qr kf => ?_)
  have er := kf.1
  clear kf
  subst er
  simp (maxSteps := 1000000) -implicitDefEqProofs only [push_cast, seval, b0, rd_of b0, rd1_of b0, l0, y1, y2]
  refine WC.loopA (by kernel_rfl) [4, 18] [6, 19, 20, 21, 22, 23, 24, 25, 26, 27, 28, 29, 30, 31, 32, 33, 34, 35, 36, 37, 38, 39, 40, 41, 42, 43, 44, 45, 46, 47, 48, 49, 50] (fun a : Nat × ByteArray => [.string a.2, .int .i64 (a.1 : Nat)]) (fun a h' => a.1 ≤ R.length ∧ a.2 = showR (L.map Prod.fst) (R.take a.1) ∧ a.2.size ≤ a.1 * 5000000000 ∧ Pre h1 h') (fun a => R.length - a.1) (0, ⟨#[]⟩) (by kernel_rfl) ⟨Nat.zero_le _, rfl, Nat.zero_le _, Pre.refl _⟩ ?_
  intro a gg h2 hJ
  obtain ⟨i, t⟩ := a
  have hi := hJ.1
  have eT := hJ.2.1
  have zT := hJ.2.2.1
  have p2 := hJ.2.2.2
  clear hJ
  simp only at hi eT zT
  have c2 := c1.pre p2
  have b2 := (p2.ob _ l0).trans b0
  have l2 : h.n < h2.n := Nat.lt_of_lt_of_le l0 p2.n
  simp (maxSteps := 1000000) -implicitDefEqProofs only [push_cast, seval, b2, rd_of b2, rd1_of b2, l2, y1, y2]
  with_reducible refine bcase_d (fun hb2 => ?_) (fun hb2 => ?_)
  rotate_left
  · have ei : i = R.length := by omega
    rw [ei, List.take_length] at eT
    simp (maxSteps := 1000000) -implicitDefEqProofs only [push_cast, seval]
    rw [eT]
    exact ⟨rfl, p0.trans p2⟩
  have hi' : i < R.length := by omega
  have ss := showR_succ (N := L.map Prod.fst) hi'
  have oR := OkR.of hP hi'
  have oact := oR.act
  have ocond := oR.cond
  have cR := cntR_le (N := L.map Prod.fst) hi' hA
  have z0 := c2.rules.el (fun _ => rfl) hi'
  generalize R[i] = X at *
  obtain ⟨wh, cd, ac⟩ := X
  simp only at oact ocond ss cR
  with_reducible refine Exists.elim oact (fun a oact => ?_)
  have ea := oact.1
  have la := oact.2.1
  have xa := oact.2.2
  clear oact
  subst ea
  have la' : a < L.length := by rw [List.length_map] at la; exact la
  with_reducible refine Exists.elim z0 (fun id z0 => ?_)
  with_reducible refine Exists.elim z0 (fun off z0 => ?_)
  with_reducible refine Exists.elim z0 (fun q z0 => ?_)
  have ekv := z0.1
  injection ekv with ekv _ _
  subst ekv
  have lid := z0.2.1
  have rU := z0.2.2
  clear z0
  simp only [encU] at rU
  have q0 := (rd_3 rU).1
  have q1 := (rd_3 rU).2.1
  have q2 := (rd_3 rU).2.2
  have ls := lit_sizes
  have zS := Nat.le_trans (shS_size hP hz.text a la' xa (L.map Prod.fst).length la) (Nat.mul_le_mul_left 1048640 (show cnt (L.map Prod.fst) (L.map Prod.fst).length a ≤ 2001 by have := cR.1; simpa using (Nat.le_succ_of_le this)))
  have nb := newbox3 h2 wh cd a
  have pb := nb.1
  have ob := nb.2.1
  have nn := nb.2.2
  clear nb
  simp (maxSteps := 1000000) -implicitDefEqProofs only [push_cast, seval, b2, rd_of b2, rd1_of b2, l2, y1, y2, rU, q0, q1, q2, lid]
  repeat (with_reducible refine And.intro ?_ ?_; · (first | omega | decide))
  generalize ((h2.alloc (.cells [.int .i64 0, .int .i64 0, .int .i64 0] .solo h2.n)).set h2.n (.cells [.int .i64 wh, .int .i64 cd, .int .i64 (a : Nat)] .solo h2.n)) = h4 at *
  have c4 := c2.pre pb
  have l4 : h2.n < h4.n := by omega
  have b4 := (pb.ob _ l2).trans b2
  have lh4 : h.n < h4.n := by omega
  have P4 : Pb h4 h.n vN _ L R := ⟨b4, lh4, c4⟩
  have ca : cnt (L.map Prod.fst) (L.map Prod.fst).length a ≤ 2001 := by have := cR.1; simpa using (Nat.le_succ_of_le this)
  have ES := shownSt_i (vN := vN) (vR := (.slice (some ⟨id, off, none⟩) R.length qr)) hP hz.text h.n a la' xa (L.map Prod.fst).length la ca
  unfold ShP at ES
  with_reducible refine bcase_d (fun o1 => ?_) (fun o1 => ?_)
  · simp (maxSteps := 1000000) -implicitDefEqProofs only [push_cast, seval]
    simp (maxSteps := 1000000) -implicitDefEqProofs only [push_cast, seval, ob, rd_of ob, rd1_of ob, l4]
    repeat (with_reducible refine And.intro (by first | omega | (simp only [ByteArray.size_append]; omega)) ?_)
    with_reducible refine CD.to (ES h4 P4) ?_
    simp (maxSteps := 1000000) -implicitDefEqProofs only [push_cast, seval]
    repeat (with_reducible refine And.intro (by first | omega | (simp only [ByteArray.size_append]; omega)) ?_)
    rw [wrapSucc (by omega)]
    have eR : ruleT (L.map Prod.fst) ⟨wh, cd, (a : Int)⟩ = (⟨#[66, 69, 71, 73, 78, 32]⟩ : ByteArray) := by unfold ruleT; rw [if_pos o1]
    refine ⟨(i + 1, t ++ (⟨#[66, 69, 71, 73, 78, 32]⟩ : ByteArray) ++ (shS (L.map Prod.fst) (L.map Prod.fst).length a ++ (⟨#[10]⟩ : ByteArray))), by kernel_rfl, ⟨by show i + 1 ≤ _; omega, ?_, by show (t ++ (⟨#[66, 69, 71, 73, 78, 32]⟩ : ByteArray) ++ (shS (L.map Prod.fst) (L.map Prod.fst).length a ++ (⟨#[10]⟩ : ByteArray))).size ≤ (i + 1) * _; simp only [ByteArray.size_append]; omega, p2.trans pb⟩, by show _ - (i + 1) < _ - i; omega⟩
    show t ++ (⟨#[66, 69, 71, 73, 78, 32]⟩ : ByteArray) ++ (shS (L.map Prod.fst) (L.map Prod.fst).length a ++ (⟨#[10]⟩ : ByteArray)) = _
    rw [ss, eR, ← eT]
    rfl
  simp (maxSteps := 1000000) -implicitDefEqProofs only [push_cast, seval, ob, rd_of ob, rd1_of ob, l4]
  with_reducible refine bcase_d (fun o3 => ?_) (fun o3 => ?_)
  · simp (maxSteps := 1000000) -implicitDefEqProofs only [push_cast, seval]
    simp (maxSteps := 1000000) -implicitDefEqProofs only [push_cast, seval, ob, rd_of ob, rd1_of ob, l4]
    repeat (with_reducible refine And.intro (by first | omega | (simp only [ByteArray.size_append]; omega)) ?_)
    with_reducible refine CD.to (ES h4 P4) ?_
    simp (maxSteps := 1000000) -implicitDefEqProofs only [push_cast, seval]
    repeat (with_reducible refine And.intro (by first | omega | (simp only [ByteArray.size_append]; omega)) ?_)
    rw [wrapSucc (by omega)]
    have eR : ruleT (L.map Prod.fst) ⟨wh, cd, (a : Int)⟩ = (⟨#[69, 78, 68, 32]⟩ : ByteArray) := by unfold ruleT; rw [if_neg o1, if_pos o3]
    refine ⟨(i + 1, t ++ (⟨#[69, 78, 68, 32]⟩ : ByteArray) ++ (shS (L.map Prod.fst) (L.map Prod.fst).length a ++ (⟨#[10]⟩ : ByteArray))), by kernel_rfl, ⟨by show i + 1 ≤ _; omega, ?_, by show (t ++ (⟨#[69, 78, 68, 32]⟩ : ByteArray) ++ (shS (L.map Prod.fst) (L.map Prod.fst).length a ++ (⟨#[10]⟩ : ByteArray))).size ≤ (i + 1) * _; simp only [ByteArray.size_append]; omega, p2.trans pb⟩, by show _ - (i + 1) < _ - i; omega⟩
    show t ++ (⟨#[69, 78, 68, 32]⟩ : ByteArray) ++ (shS (L.map Prod.fst) (L.map Prod.fst).length a ++ (⟨#[10]⟩ : ByteArray)) = _
    rw [ss, eR, ← eT]
    rfl
  simp (maxSteps := 1000000) -implicitDefEqProofs only [push_cast, seval, ob, rd_of ob, rd1_of ob, l4]
  with_reducible refine bcase_d (fun oc => ?_) (fun oc => ?_)
  rotate_left
  · simp (maxSteps := 1000000) -implicitDefEqProofs only [push_cast, seval, ob, rd_of ob, rd1_of ob, l4]
    repeat (with_reducible refine And.intro (by first | omega | (simp only [ByteArray.size_append]; omega)) ?_)
    with_reducible refine CD.to (ES h4 P4) ?_
    simp (maxSteps := 1000000) -implicitDefEqProofs only [push_cast, seval]
    repeat (with_reducible refine And.intro (by first | omega | (simp only [ByteArray.size_append]; omega)) ?_)
    rw [wrapSucc (by omega)]
    have eR : ruleT (L.map Prod.fst) ⟨wh, cd, (a : Int)⟩ = ⟨#[]⟩ := by unfold ruleT; rw [if_neg o1, if_neg o3, if_neg oc]
    refine ⟨(i + 1, t ++ (shS (L.map Prod.fst) (L.map Prod.fst).length a ++ (⟨#[10]⟩ : ByteArray))), by kernel_rfl, ⟨by show i + 1 ≤ _; omega, ?_, by show (t ++ (shS (L.map Prod.fst) (L.map Prod.fst).length a ++ (⟨#[10]⟩ : ByteArray))).size ≤ (i + 1) * _; simp only [ByteArray.size_append]; omega, p2.trans pb⟩, by show _ - (i + 1) < _ - i; omega⟩
    show t ++ (shS (L.map Prod.fst) (L.map Prod.fst).length a ++ (⟨#[10]⟩ : ByteArray)) = _
    rw [ss, eR, ← eT]
    rw [ba_nil]
    rfl
  have hcm : ∃ m : Nat, cd = m ∧ m < (L.map Prod.fst).length ∧ isEx (nd (L.map Prod.fst) m).op = true := by
    rcases ocond with e | e
    · omega
    · exact e
  with_reducible refine Exists.elim hcm (fun m hcm => ?_)
  have em := hcm.1
  have lm := hcm.2.1
  have xm := hcm.2.2
  clear hcm ocond
  subst em
  have lm' : m < L.length := by rw [List.length_map] at lm; exact lm
  have cm : cnt (L.map Prod.fst) (L.map Prod.fst).length m ≤ 2001 := by have := cR.2 oc; simpa using (Nat.le_succ_of_le this)
  have EE := shown_i (vN := vN) (vR := (.slice (some ⟨id, off, none⟩) R.length qr)) hP hz.text h.n m lm' xm (L.map Prod.fst).length lm cm
  unfold ShE at EE
  have zE := Nat.le_trans (shE_size hP hz.text m lm' xm (L.map Prod.fst).length lm).1 (Nat.mul_le_mul_left 1048640 cm)
  simp (maxSteps := 1000000) -implicitDefEqProofs only [push_cast, seval, ob, rd_of ob, rd1_of ob, l4]
  with_reducible refine CD.to (EE h4 P4) ?_
  simp (maxSteps := 1000000) -implicitDefEqProofs only [push_cast, seval]
  repeat (with_reducible refine And.intro (by first | omega | (simp only [ByteArray.size_append]; omega)) ?_)
  simp (maxSteps := 1000000) -implicitDefEqProofs only [push_cast, seval, ob, rd_of ob, rd1_of ob, l4]
  repeat (with_reducible refine And.intro (by first | omega | (simp only [ByteArray.size_append]; omega)) ?_)
  with_reducible refine CD.to (ES h4 P4) ?_
  simp (maxSteps := 1000000) -implicitDefEqProofs only [push_cast, seval]
  repeat (with_reducible refine And.intro (by first | omega | (simp only [ByteArray.size_append]; omega)) ?_)
  rw [wrapSucc (by omega)]
  have eR : ruleT (L.map Prod.fst) ⟨wh, (m : Int), (a : Int)⟩ = shE (L.map Prod.fst) (L.map Prod.fst).length m ++ (⟨#[32]⟩ : ByteArray) := by unfold ruleT; rw [if_neg o1, if_neg o3, if_pos oc]; rfl
  refine ⟨(i + 1, t ++ (shE (L.map Prod.fst) (L.map Prod.fst).length m ++ (⟨#[32]⟩ : ByteArray)) ++ (shS (L.map Prod.fst) (L.map Prod.fst).length a ++ (⟨#[10]⟩ : ByteArray))), by kernel_rfl, ⟨by show i + 1 ≤ _; omega, ?_, by show (t ++ (shE (L.map Prod.fst) (L.map Prod.fst).length m ++ (⟨#[32]⟩ : ByteArray)) ++ (shS (L.map Prod.fst) (L.map Prod.fst).length a ++ (⟨#[10]⟩ : ByteArray))).size ≤ (i + 1) * _; simp only [ByteArray.size_append]; omega, p2.trans pb⟩, by show _ - (i + 1) < _ - i; omega⟩
  show t ++ (shE (L.map Prod.fst) (L.map Prod.fst).length m ++ (⟨#[32]⟩ : ByteArray)) ++ (shS (L.map Prod.fst) (L.map Prod.fst).length a ++ (⟨#[10]⟩ : ByteArray)) = _
  rw [ss, eR, ← eT]
  rfl
end Go.Proofs.YtdlpdfclljnmhaaGreat
namespace Go.Proofs.YtdlpdfclljnmhaaGreat
open Go Go.Sim Go.Proofs
set_option linter.unusedSimpArgs false
set_option linter.unusedVariables false
set_option maxRecDepth 100000
set_option maxHeartbeats 1000000
theorem law_ShowProgram (L : List (Nd × Value)) (R : List Ru) (vN vR : Value) (h : AH) (r0 : RdG h vN vR L R) (hz0 : ∀ x ∈ L, x.1.text.size ≤ maxLen ∧ x.1.kids.length ≤ maxLen) (hn0 : L.length ≤ maxLen) (hr0 : R.length ≤ maxLen) (big : Big h) : CE Tryz.prog 3 [.agg #[vN, vR]] h fun v _ => v = .bool true := by
  have u00 := r0.nodes.one
  have u01 := r0.rules.one
  have pb : Pre h (h.alloc (.cells [vN, vR] .solo h.n)) := (Pre.refl _).alloc _
  have hS := szProgram_c L R vN vR 1048576 _ (r0.pre pb) hz0 hn0 hr0 (by omega)
  refine CE.ofN Tryz.func3 Tryz.ntmps3 Tryz.results3 rfl (by kernel_rfl) ?_
  simp (maxSteps := 1000000) -implicitDefEqProofs only [push_cast, seval, u00, u01]
  repeat (with_reducible refine And.intro ?_ ?_; · (first | omega | decide))
  with_reducible refine CD.to hS ?_
  simp (maxSteps := 1000000) -implicitDefEqProofs only [push_cast, seval]
  with_reducible refine bcase_d (fun hb => ?_) (fun hb => ?_)
  · simp (maxSteps := 1000000) -implicitDefEqProofs only [push_cast, seval]
  have hw : progW L R ≤ 1048576 := by
    by_cases e : (1048576 : Int) - progW L R < 0
    · exact absurd (by rw [if_pos e]; decide) hb
    · omega
  have hz := SzG.ofW hw
  simp (maxSteps := 1000000) -implicitDefEqProofs only [push_cast, seval, u00, u01]
  with_reducible refine CC.mono (toProgram_c L R vN vR _ (r0.pre pb) hz) (fun v h1 hv => ?_)
  with_reducible refine Exists.elim hv (fun a1 hw => ?_)
  with_reducible refine Exists.elim hw (fun b1 hw => ?_)
  with_reducible refine Exists.elim hw (fun D1 hw => ?_)
  have e1 := hw.1
  have m1 := hw.2.1
  have r1 := hw.2.2.1
  have p1 := hw.2.2.2.1
  clear hv hw
  subst e1
  have z1 := hz.of m1
  have u10 := r1.nodes.one
  have u11 := r1.rules.one
  have q1 : Pre h h1 := pb.trans p1
  have l1 : h.n < h1.n := Nat.lt_of_lt_of_le (lt_alloc _) p1.n
  have o1 : h1.ob h.n = _ := (p1.ob _ (lt_alloc _)).trans (alloc_same _)
  simp (maxSteps := 1000000) -implicitDefEqProofs only [push_cast, seval, o1, rd_of o1, rd1_of o1, l1]
  have hO1 := ShowProgram_s _ r1 z1
  rw [m1] at hO1
  with_reducible refine CC.mono hO1 (fun v h1' hv => ?_)
  have e1 := hv.1
  have p1' := hv.2
  clear hv hO1
  subst e1
  generalize hb1 : showOk (L.map Prod.fst) R = ok at *
  generalize hp1 : showP (L.map Prod.fst) R = tx at *
  have q1' : Pre h h1' := q1.trans p1'
  have l1' : h.n < h1'.n := Nat.lt_of_lt_of_le l1 p1'.n
  have o1' : h1'.ob h.n = _ := (p1'.ob _ l1).trans o1
  simp (maxSteps := 1000000) -implicitDefEqProofs only [push_cast, seval, o1', rd_of o1', rd1_of o1', l1', u00, u01]
  with_reducible refine CC.mono (toProgram_c L R vN vR _ (r0.pre q1') hz) (fun v h2 hv => ?_)
  with_reducible refine Exists.elim hv (fun a2 hw => ?_)
  with_reducible refine Exists.elim hw (fun b2 hw => ?_)
  with_reducible refine Exists.elim hw (fun D2 hw => ?_)
  have e1 := hw.1
  have m2 := hw.2.1
  have r2 := hw.2.2.1
  have p2 := hw.2.2.2.1
  clear hv hw
  subst e1
  have z2 := hz.of m2
  have u20 := r2.nodes.one
  have u21 := r2.rules.one
  have q2 : Pre h h2 := q1'.trans p2
  have l2 : h.n < h2.n := Nat.lt_of_lt_of_le l1' p2.n
  have o2 : h2.ob h.n = _ := (p2.ob _ l1').trans o1'
  simp (maxSteps := 1000000) -implicitDefEqProofs only [push_cast, seval, o2, rd_of o2, rd1_of o2, l2, u20, u21]
  have p3 : Pre h2 ((h2.alloc (.cells [.slice none 0 0, .slice none 0 0] .solo h2.n)).set h2.n (.cells [a2, b2] .solo h2.n)) := ((Pre.refl h2).alloc _).set (Nat.le_refl _) _
  have o3 : ((h2.alloc (.cells [.slice none 0 0, .slice none 0 0] .solo h2.n)).set h2.n (.cells [a2, b2] .solo h2.n)).ob h2.n = AOb.cells [a2, b2] .solo h2.n := set_same _ _
  have n3 : ((h2.alloc (.cells [.slice none 0 0, .slice none 0 0] .solo h2.n)).set h2.n (.cells [a2, b2] .solo h2.n)).n = h2.n + 1 := rfl
  generalize ((h2.alloc (.cells [.slice none 0 0, .slice none 0 0] .solo h2.n)).set h2.n (.cells [a2, b2] .solo h2.n)) = h3 at *
  have m3 : h2.n < h3.n := by omega
  have l3 : h.n < h3.n := by omega
  have o33 : h3.ob h.n = _ := (p3.ob _ l2).trans o2
  have q3 := q2.trans p3
  have hO2 := ShowProgram_i _ (r2.pre p3) z2
  rw [m2, hb1, hp1] at hO2
  with_reducible refine CC.mono hO2 (fun v h5 hv => ?_)
  have e1 := hv.1
  have p5 := hv.2
  clear hv hO2
  subst e1
  have q5 := q3.trans p5
  have o5 : h5.ob h2.n = _ := (p5.ob _ m3).trans o3
  have o55 : h5.ob h.n = _ := (p5.ob _ l3).trans o33
  have m5 : h2.n < h5.n := Nat.lt_of_lt_of_le m3 p5.n
  have l5 : h.n < h5.n := Nat.lt_of_lt_of_le l3 p5.n
  have oo : (ok == ok) = true := beq_self_eq_true ok
  simp (maxSteps := 1000000) -implicitDefEqProofs only [push_cast, seval, o5, rd_of o5, rd1_of o5, o55, rd_of o55, rd1_of o55, m5, l5, u20, u21, oo]
  refine WC.draw' (by kernel_rfl) (by kernel_rfl) (.q 0 (.q 1 (.a 2 false (.a 3 false (.q 4 (.done)))))) (by kernel_rfl) ?_
  simp (maxSteps := 1000000) -implicitDefEqProofs only [push_cast, seval, o5, rd_of o5, rd1_of o5, o55, rd_of o55, rd1_of o55, m5, l5, u00, u01, u20, u21]
  with_reducible refine CC.mono (toProgram_c L R vN vR _ (r0.pre q5) hz) (fun v h4 hv => ?_)
  with_reducible refine Exists.elim hv (fun a4 hw => ?_)
  with_reducible refine Exists.elim hw (fun b4 hw => ?_)
  with_reducible refine Exists.elim hw (fun D4 hw => ?_)
  have e1 := hw.1
  have m4 := hw.2.1
  have r4 := hw.2.2.1
  have p4 := hw.2.2.2.1
  clear hv hw
  subst e1
  have z4 := hz.of m4
  have u40 := r4.nodes.one
  have u41 := r4.rules.one
  have o4 : h4.ob h2.n = _ := (p4.ob _ m5).trans o5
  have o44 : h4.ob h.n = _ := (p4.ob _ l5).trans o55
  have m6 : h2.n < h4.n := Nat.lt_of_lt_of_le m5 p4.n
  have l6 : h.n < h4.n := Nat.lt_of_lt_of_le l5 p4.n
  simp (maxSteps := 1000000) -implicitDefEqProofs only [push_cast, seval, o4, rd_of o4, rd1_of o4, o44, rd_of o44, rd1_of o44, o5, o55, m6, l6, u20, u21, u40, u41]
  with_reducible refine CD.to (eqProgram_c D2 D4 R a2 b2 a4 b4 h4 (r2.pre ((p3.trans p5).trans p4)) r4 (m2.trans m4.symm) z2) ?_
  simp (maxSteps := 1000000) -implicitDefEqProofs only [push_cast, seval, o4, rd_of o4, rd1_of o4, o44, rd_of o44, rd1_of o44, o5, o55, m6, l6, u20, u21, u40, u41]
end Go.Proofs.YtdlpdfclljnmhaaGreat
