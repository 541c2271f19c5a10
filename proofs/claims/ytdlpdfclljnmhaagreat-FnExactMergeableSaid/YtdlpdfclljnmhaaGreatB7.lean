/- Parts of the proof of the row: the ground, contracts of the functions that it reaches (L109, L110, L111, L112, M7). Conditions: those that each theorem names. -/
import Derived.Test.YtdlpdfclljnmhaaGreatB6
namespace Go.Proofs.YtdlpdfclljnmhaaGreat
open Go Go.Sim Go.Proofs
set_option linter.unusedSimpArgs false
set_option linter.unusedVariables false
set_option maxRecDepth 100000
set_option maxHeartbeats 1000000
theorem toIntS_c (vs : List Int) (A : Option Addr) (ca : Nat) (h : AH) (hR : RdE h A 1 encZ vs) (hn : vs.length < 274877906944) :
    CC Tryz.prog 85 [.slice A vs.length ca] h (fun v h' => ∃ cs, v = .slice (some ⟨h.n, 0, none⟩) vs.length 1 ∧ h' = h.alloc (.cells cs .solo h.n) ∧ Filled 1 encZ vs cs vs.length) := by
  refine CC.withBig (fun big => ?_)
  refine CC.ofN Tryz.func85 Tryz.ntmps85 Tryz.results85 rfl (by decide) (by kernel_rfl) ?_
  simp (maxSteps := 1000000) -implicitDefEqProofs only [push_cast, seval]
  repeat (with_reducible refine And.intro ?_ ?_; · (first | omega | decide))
  refine WC.loopA (by kernel_rfl) [4] [8, 9, 10, 11, 12, 13, 14, 15, 16, 17, 18, 19, 20] (fun a : Nat × List Value => [.int .i64 (a.1 : Nat)]) (fun a h' => h' = h.alloc (.cells a.2 .solo h.n) ∧ a.1 ≤ vs.length ∧ Filled 1 encZ vs a.2 a.1) (fun a => vs.length - a.1) (0, List.replicate (vs.length * 1) (.int .i64 0)) (by kernel_rfl) ⟨rfl, Nat.zero_le _, by simp, fun j _ h => absurd h (Nat.not_lt_zero j)⟩ ?_
  intro a g h1 hJ
  have hh := hJ.1
  have hi := hJ.2.1
  have hf := hJ.2.2
  clear hJ
  subst hh
  have pb : Pre h (h.alloc (.cells a.2 .solo h.n)) := (Pre.refl _).alloc _
  simp (maxSteps := 1000000) -implicitDefEqProofs only [push_cast, seval]
  with_reducible refine bcase_d (fun hb => ?_) (fun hb => ?_)
  · have hi' : a.1 < vs.length := by omega
    with_reducible refine hR.use big pb hi' (fun id off eA hlt hr => ?_)
    subst eA
    simp only [encZ, Nat.mul_one] at hr
    have r0 := rd_1 hr
    have hc := hf.1
    have hf' := hf.put hi' rfl
    simp only [encZ] at hf'
    have hbd : a.1 + 1 ≤ vs.length * 1 := by omega
    simp (maxSteps := 1000000) -implicitDefEqProofs only [push_cast, seval, hr, r0, hlt, Nat.mul_one]
    repeat' (first | with_reducible (first | exact Keep.refl _ _ | assumption | exact byte_lt _ _ | apply Keep.alloc | (refine Keep.set ?_ ?_; rotate_left; · omega) | apply Pre.alloc | apply Pre.set | exact Pre.refl _ | exact le_alloc _ | (refine Pre.keep ?_; assumption) | (refine Pre.n ?_; assumption)) | ((with_reducible (first | refine bcase_d (fun hb => ?_) (fun hb => ?_) | refine bcase_mk (fun hb => ?_) (fun hb => ?_))) <;> try simp (maxSteps := 1000000) -implicitDefEqProofs only [push_cast, seval, hr, r0, hlt, Nat.mul_one, hc, hbd]) | with_reducible refine And.intro ?_ ?_ | omega | (simp only [alloc_n, set_n, kill_n]; omega) | (exfalso; omega))
    rw [wrapSucc (by omega)]
    refine ⟨(a.1 + 1, putL a.2 (a.1 * 1) [.int .i64 vs[a.1]]), by kernel_rfl, ⟨?_, ?_, hf'⟩, ?_⟩
    · simp only [putL, alloc_set, Nat.mul_one]
    · show a.1 + 1 ≤ vs.length
      omega
    · show vs.length - (a.1 + 1) < vs.length - a.1
      omega
  · have hn : a.1 = vs.length := by omega
    rw [hn] at hf
    simp (maxSteps := 1000000) -implicitDefEqProofs only [push_cast, seval]
    repeat' (first | with_reducible (first | exact Keep.refl _ _ | assumption | exact byte_lt _ _ | apply Keep.alloc | (refine Keep.set ?_ ?_; rotate_left; · omega) | apply Pre.alloc | apply Pre.set | exact Pre.refl _ | exact le_alloc _ | (refine Pre.keep ?_; assumption) | (refine Pre.n ?_; assumption)) | ((with_reducible (first | refine bcase_d (fun hb => ?_) (fun hb => ?_) | refine bcase_mk (fun hb => ?_) (fun hb => ?_))) <;> try simp (maxSteps := 1000000) -implicitDefEqProofs only [push_cast, seval]) | with_reducible refine And.intro ?_ ?_ | omega | (simp only [alloc_n, set_n, kill_n]; omega) | (exfalso; omega))
    exact ⟨_, rfl, hf⟩
theorem toRule_c (x : Ru) (h : AH) : CD Tryz.prog 60 [.agg #[.int .i64 x.when_, .int .i64 x.cond, .int .i64 x.act]] h (.agg #[.int .i64 x.when_, .int .i64 x.cond, .int .i64 x.act]) h := by
  refine CD.quiet ?_ (low_agg (by simp [low_int]))
  refine CC.ofN Tryz.func60 Tryz.ntmps60 Tryz.results60 rfl (by decide) (by kernel_rfl) ?_
  simp (maxSteps := 1000000) -implicitDefEqProofs only [push_cast, seval]
  repeat' (first | with_reducible (first | exact Keep.refl _ _ | assumption | exact byte_lt _ _ | apply Keep.alloc | (refine Keep.set ?_ ?_; rotate_left; · omega) | apply Pre.alloc | apply Pre.set | exact Pre.refl _ | exact le_alloc _ | (refine Pre.keep ?_; assumption) | (refine Pre.n ?_; assumption)) | ((with_reducible (first | refine bcase_d (fun hb => ?_) (fun hb => ?_) | refine bcase_mk (fun hb => ?_) (fun hb => ?_))) <;> try simp (maxSteps := 1000000) -implicitDefEqProofs only [push_cast, seval]) | with_reducible refine And.intro ?_ ?_ | omega | (simp only [alloc_n, set_n, kill_n]; omega) | (exfalso; omega))
theorem toRuleS_c (vs : List Ru) (A : Option Addr) (ca : Nat) (h : AH) (hR : RdE h A 3 encU vs) (hn : vs.length < 274877906944) :
    CC Tryz.prog 32 [.slice A vs.length ca] h (fun v h' => ∃ cs, v = .slice (some ⟨h.n, 0, none⟩) vs.length 3 ∧ h' = h.alloc (.cells cs .solo h.n) ∧ Filled 3 encU vs cs vs.length) := by
  refine CC.withBig (fun big => ?_)
  refine CC.ofN Tryz.func32 Tryz.ntmps32 Tryz.results32 rfl (by decide) (by kernel_rfl) ?_
  simp (maxSteps := 1000000) -implicitDefEqProofs only [push_cast, seval]
  repeat (with_reducible refine And.intro ?_ ?_; · (first | omega | decide))
  refine WC.loopA (by kernel_rfl) [4] [8, 9, 10, 11, 12, 13, 14, 15, 16, 17, 18, 19, 20, 21] (fun a : Nat × List Value => [.int .i64 (a.1 : Nat)]) (fun a h' => h' = h.alloc (.cells a.2 .solo h.n) ∧ a.1 ≤ vs.length ∧ Filled 3 encU vs a.2 a.1) (fun a => vs.length - a.1) (0, zerosL (vs.length * 3) [.int .i64 0, .int .i64 0, .int .i64 0]) (by kernel_rfl) ⟨rfl, Nat.zero_le _, Filled.zero _⟩ ?_
  intro a g h1 hJ
  have hh := hJ.1
  have hi := hJ.2.1
  have hf := hJ.2.2
  clear hJ
  subst hh
  have pb : Pre h (h.alloc (.cells a.2 .solo h.n)) := (Pre.refl _).alloc _
  simp (maxSteps := 1000000) -implicitDefEqProofs only [push_cast, seval]
  with_reducible refine bcase_d (fun hb => ?_) (fun hb => ?_)
  · have hi' : a.1 < vs.length := by omega
    with_reducible refine hR.use big pb hi' (fun id off eA hlt hr => ?_)
    subst eA
    simp only [encU] at hr
    have hc := hf.1
    have hf' := hf.put hi' rfl
    simp only [encU] at hf'
    simp (maxSteps := 1000000) -implicitDefEqProofs only [push_cast, seval, hr, hlt]
    repeat' (first | with_reducible (first | exact Keep.refl _ _ | assumption | exact byte_lt _ _ | apply Keep.alloc | (refine Keep.set ?_ ?_; rotate_left; · omega) | apply Pre.alloc | apply Pre.set | exact Pre.refl _ | exact le_alloc _ | (refine Pre.keep ?_; assumption) | (refine Pre.n ?_; assumption)) | ((with_reducible (first | refine CD.to (toRule_c _ _) ?_ | refine CQ.pure (fun _ => toRule_c _ _) ?_ | refine bcase_d (fun hb => ?_) (fun hb => ?_) | refine bcase_mk (fun hb => ?_) (fun hb => ?_))) <;> try simp (maxSteps := 1000000) -implicitDefEqProofs only [push_cast, seval, hr, hlt]) | with_reducible refine And.intro ?_ ?_ | omega | (simp only [alloc_n, set_n, kill_n]; omega) | (exfalso; omega))
    rw [wrapSucc (by omega)]
    refine ⟨(a.1 + 1, putL a.2 (a.1 * 3) [.int .i64 vs[a.1].when_, .int .i64 vs[a.1].cond, .int .i64 vs[a.1].act]), by kernel_rfl, ⟨?_, ?_, hf'⟩, ?_⟩
    · simp only [putL, alloc_set]
    · show a.1 + 1 ≤ vs.length
      omega
    · show vs.length - (a.1 + 1) < vs.length - a.1
      omega
  · have hn : a.1 = vs.length := by omega
    rw [hn] at hf
    simp (maxSteps := 1000000) -implicitDefEqProofs only [push_cast, seval]
    repeat' (first | with_reducible (first | exact Keep.refl _ _ | assumption | exact byte_lt _ _ | apply Keep.alloc | (refine Keep.set ?_ ?_; rotate_left; · omega) | apply Pre.alloc | apply Pre.set | exact Pre.refl _ | exact le_alloc _ | (refine Pre.keep ?_; assumption) | (refine Pre.n ?_; assumption)) | ((with_reducible (first | refine bcase_d (fun hb => ?_) (fun hb => ?_) | refine bcase_mk (fun hb => ?_) (fun hb => ?_))) <;> try simp (maxSteps := 1000000) -implicitDefEqProofs only [push_cast, seval]) | with_reducible refine And.intro ?_ ?_ | omega | (simp only [alloc_n, set_n, kill_n]; omega) | (exfalso; omega))
    exact ⟨_, rfl, hf⟩
theorem toNode_c (op : Int) (s : ByteArray) (kv : Value) (kids : List Int) (h : AH) (r : RdV h kv 1 encZ kids) (hn : kids.length < 274877906944) :
    CC Tryz.prog 59 [.agg #[.int .i64 op, .string s, kv]] h (fun v h' => ∃ kw, v = .agg #[.int .i64 op, .string s, kw] ∧ RdV h' kw 1 encZ kids ∧ Pre h h' ∧ ∀ b, atBlock kw b → h.n ≤ b) := by
  refine CC.withBig (fun big => ?_)
  obtain ⟨A, cA, rfl, hA⟩ := r.rde (fun _ => rfl)
  have p0 : Pre h (((h.alloc (.cells [.int .i64 op, .string s, .slice A kids.length cA] .solo h.n)).alloc (.cells [.int .i64 0, .string ⟨#[]⟩, .slice none 0 0] .solo (h.n + 1))).alloc (.cells [.int .i64 0, .string ⟨#[]⟩, .slice none 0 0] .solo (h.n + 2))) := (((Pre.refl h).alloc _).alloc _).alloc _
  refine CC.ofN Tryz.func59 Tryz.ntmps59 Tryz.results59 rfl (by decide) (by kernel_rfl) ?_
  simp (maxSteps := 1000000) -implicitDefEqProofs only [push_cast, seval]
  have p1 : Pre h ((((h.alloc (.cells [.int .i64 op, .string s, .slice A kids.length cA] .solo h.n)).alloc (.cells [.int .i64 0, .string ⟨#[]⟩, .slice none 0 0] .solo (h.n + 1))).alloc (.cells [.int .i64 0, .string ⟨#[]⟩, .slice none 0 0] .solo (h.n + 2))).set (h.n + 2) (.cells [.int .i64 op, .string s, .slice none 0 0] .solo (h.n + 2))) := p0.set (by omega) _
  have a1 : ((((h.alloc (.cells [.int .i64 op, .string s, .slice A kids.length cA] .solo h.n)).alloc (.cells [.int .i64 0, .string ⟨#[]⟩, .slice none 0 0] .solo (h.n + 1))).alloc (.cells [.int .i64 0, .string ⟨#[]⟩, .slice none 0 0] .solo (h.n + 2))).set (h.n + 2) (.cells [.int .i64 op, .string s, .slice none 0 0] .solo (h.n + 2))).ob h.n = .cells [.int .i64 op, .string s, .slice A kids.length cA] .solo h.n := (by (try simp (maxSteps := 1000000) -implicitDefEqProofs only [push_cast, seval, rdOb]); try rfl)
  have b1 : ((((h.alloc (.cells [.int .i64 op, .string s, .slice A kids.length cA] .solo h.n)).alloc (.cells [.int .i64 0, .string ⟨#[]⟩, .slice none 0 0] .solo (h.n + 1))).alloc (.cells [.int .i64 0, .string ⟨#[]⟩, .slice none 0 0] .solo (h.n + 2))).set (h.n + 2) (.cells [.int .i64 op, .string s, .slice none 0 0] .solo (h.n + 2))).ob (h.n + 1) = .cells [.int .i64 0, .string ⟨#[]⟩, .slice none 0 0] .solo (h.n + 1) := (by (try simp (maxSteps := 1000000) -implicitDefEqProofs only [push_cast, seval, rdOb]); try rfl)
  have c1 : ((((h.alloc (.cells [.int .i64 op, .string s, .slice A kids.length cA] .solo h.n)).alloc (.cells [.int .i64 0, .string ⟨#[]⟩, .slice none 0 0] .solo (h.n + 1))).alloc (.cells [.int .i64 0, .string ⟨#[]⟩, .slice none 0 0] .solo (h.n + 2))).set (h.n + 2) (.cells [.int .i64 op, .string s, .slice none 0 0] .solo (h.n + 2))).ob (h.n + 2) = .cells [.int .i64 op, .string s, .slice none 0 0] .solo (h.n + 2) := (by (try simp (maxSteps := 1000000) -implicitDefEqProofs only [push_cast, seval, rdOb]); try rfl)
  have n1 : ((((h.alloc (.cells [.int .i64 op, .string s, .slice A kids.length cA] .solo h.n)).alloc (.cells [.int .i64 0, .string ⟨#[]⟩, .slice none 0 0] .solo (h.n + 1))).alloc (.cells [.int .i64 0, .string ⟨#[]⟩, .slice none 0 0] .solo (h.n + 2))).set (h.n + 2) (.cells [.int .i64 op, .string s, .slice none 0 0] .solo (h.n + 2))).n = h.n + 3 := rfl
  try rw [set_set]
  generalize ((((h.alloc (.cells [.int .i64 op, .string s, .slice A kids.length cA] .solo h.n)).alloc (.cells [.int .i64 0, .string ⟨#[]⟩, .slice none 0 0] .solo (h.n + 1))).alloc (.cells [.int .i64 0, .string ⟨#[]⟩, .slice none 0 0] .solo (h.n + 2))).set (h.n + 2) (.cells [.int .i64 op, .string s, .slice none 0 0] .solo (h.n + 2))) = H1 at *
  clear p0
  with_reducible refine CC.mono (toIntS_c kids A cA _ (hA.pre big p1) hn) (fun v h1 hv => ?_)
  with_reducible refine Exists.elim hv (fun cs hw => ?_)
  have e1 := hw.1
  have e2 := hw.2.1
  have f1 := hw.2.2
  clear hv hw
  subst e1 e2
  have p2 : Pre H1 (H1.alloc (.cells cs .solo H1.n)) := (Pre.refl _).alloc _
  have d2 : (H1.alloc (.cells cs .solo H1.n)).ob H1.n = _ := alloc_same _
  have n2 : (H1.alloc (.cells cs .solo H1.n)).n = H1.n + 1 := rfl
  generalize (H1.alloc (.cells cs .solo H1.n)) = H2 at *
  have b2 := (p2.ob (h.n + 1) (by omega)).trans b1
  have c2 := (p2.ob (h.n + 2) (by omega)).trans c1
  have l1 : h.n + 1 < H2.n := by omega
  have l2 : h.n + 2 < H2.n := by omega
  simp (maxSteps := 1000000) -implicitDefEqProofs only [push_cast, seval, b2, rd_of b2, rd1_of b2, c2, rd_of c2, rd1_of c2, l1, l2]
  refine ⟨_, rfl, f1.rdv (fun _ => rfl) (st := .solo) (ln := H1.n) (by rw [set_ne _ (by omega), set_ne _ (by omega)]; exact d2) (by show H1.n < H2.n; omega), ((p1.trans p2).set (by omega) _).set (by omega) _, fun b e => by have e' : H1.n = b := e; omega⟩
end Go.Proofs.YtdlpdfclljnmhaaGreat
namespace Go.Proofs.YtdlpdfclljnmhaaGreat
open Go Go.Sim Go.Proofs
set_option linter.unusedSimpArgs false
set_option linter.unusedVariables false
set_option maxRecDepth 100000
set_option maxHeartbeats 1000000
theorem Filled.swap {k : Nat} {D : List (Nd × Value)} {cs : List Value} {i : Nat} (w : Filled k encD D cs i) (y : Nd × Value) : Filled k encD (D.set i y) cs i := by
  refine ⟨by rw [List.length_set]; exact w.1, fun j hj hji => ?_⟩
  rw [List.length_set] at hj
  rw [w.2 j hj hji, List.getElem_set_ne (by omega)]
theorem toNodeS_c (L : List (Nd × Value)) (A : Option Addr) (ca : Nat) (h : AH) (hR : RdE h A 3 encD L) (kids : ∀ x ∈ L, RdV h x.2 1 encZ x.1.kids) (hk : ∀ x ∈ L, x.1.kids.length < 274877906944) (hn : L.length < 274877906944) :
    CC Tryz.prog 31 [.slice A L.length ca] h (fun v h' => ∃ w D, v = w ∧ D.map Prod.fst = L.map Prod.fst ∧ RdV h' w 3 encD D ∧ (∀ x ∈ D, RdV h' x.2 1 encZ x.1.kids) ∧ Pre h h' ∧ ∀ b, (atBlock w b ∨ ∃ x ∈ D, atBlock x.2 b) → h.n ≤ b) := by
  refine CC.withBig (fun big => ?_)
  refine CC.ofN Tryz.func31 Tryz.ntmps31 Tryz.results31 rfl (by decide) (by kernel_rfl) ?_
  simp (maxSteps := 1000000) -implicitDefEqProofs only [push_cast, seval]
  repeat (with_reducible refine And.intro ?_ ?_; · (first | omega | decide))
  refine WC.loopA (by kernel_rfl) [4] [8, 9, 10, 11, 12, 13, 14, 15, 16, 17, 18, 19, 20, 21] (fun a : Nat × List (Nd × Value) × List Value => [.int .i64 (a.1 : Nat)]) (fun a h' => (a.1 ≤ L.length ∧ a.2.1.map Prod.fst = L.map Prod.fst ∧ Filled 3 encD a.2.1 a.2.2 a.1 ∧ (∀ j (hj : j < a.2.1.length), j < a.1 → RdV h' a.2.1[j].2 1 encZ a.2.1[j].1.kids ∧ ∀ b, atBlock a.2.1[j].2 b → h.n + 1 ≤ b)) ∧ h'.ob h.n = .cells a.2.2 .solo h.n ∧ h.n + 1 ≤ h'.n ∧ Pre h h') (fun a => L.length - a.1) (0, L, zerosL (L.length * 3) [.int .i64 0, .string ⟨#[]⟩, .slice none 0 0]) (by kernel_rfl) ⟨⟨Nat.zero_le _, rfl, Filled.zero _, fun j hj h0 => by omega⟩, alloc_same _, Nat.le_refl _, (Pre.refl h).alloc _⟩ ?_
  intro a g h1 hJ
  have hi := hJ.1.1
  have hmap := hJ.1.2.1
  have hf := hJ.1.2.2.1
  have hkd := hJ.1.2.2.2
  have ho := hJ.2.1
  have hn1 := hJ.2.2.1
  have hp := hJ.2.2.2
  clear hJ
  have hlen : a.2.1.length = L.length := by have := congrArg List.length hmap; simpa using this
  have lo : h.n < h1.n := by omega
  simp (maxSteps := 1000000) -implicitDefEqProofs only [push_cast, seval]
  with_reducible refine bcase_d (fun hb => ?_) (fun hb => ?_)
  · have hi' : a.1 < L.length := by omega
    have kr := kids L[a.1] (List.getElem_mem hi')
    have kl := hk L[a.1] (List.getElem_mem hi')
    have hX : (a.2.1.map Prod.fst)[a.1]'(by rw [List.length_map]; omega) = L[a.1].1 := by simp [hmap]
    with_reducible refine hR.use big hp hi' (fun id off eA hlt hr => ?_)
    subst eA
    simp only [encD] at hr
    have r0 := (rd_3 hr).1
    have r1 := (rd_3 hr).2.1
    have r2 := (rd_3 hr).2.2
    have hXm : ∀ kw, (a.2.1.set a.1 (L[a.1].1, kw)).map Prod.fst = L.map Prod.fst := fun kw => by
      rw [← hmap]
      apply List.ext_getElem
      · simp
      · intro j h1 h2
        simp only [List.length_map, List.length_set] at h1 h2
        rw [List.getElem_map, List.getElem_map]
        by_cases e : j = a.1
        · subst e
          rw [List.getElem_set_self, ← hX, List.getElem_map]
        · rw [List.getElem_set_ne (by omega)]
    generalize L[a.1] = X at *
    have y3 := kr.one
    have y4 := rdv_cells kr
    simp (maxSteps := 1000000) -implicitDefEqProofs only [push_cast, seval, hr, r0, r1, r2, hlt, y3, y4]
    repeat (with_reducible refine And.intro ?_ ?_; · (first | omega | decide))
    with_reducible refine CC.mono (toNode_c X.1.op X.1.text X.2 X.1.kids _ (kr.pre hp) kl) (fun v h2 hv => ?_)
    with_reducible refine Exists.elim hv (fun kw hw => ?_)
    have e1 := hw.1
    have rk := hw.2.1
    have p2 := hw.2.2.1
    have fr := hw.2.2.2
    clear hv hw
    subst e1
    have o2 := (p2.ob h.n lo).trans ho
    have l2 : h.n < h2.n := Nat.lt_of_lt_of_le lo p2.n
    have y5 := rk.one
    have y6 := rdv_cells rk
    have hc := hf.1
    have hbd : a.1 * 3 + 3 ≤ a.2.2.length := by rw [hc, hlen]; omega
    simp (maxSteps := 1000000) -implicitDefEqProofs only [push_cast, seval, o2, rd_of o2, rd1_of o2, l2, y5, y6]
    refine And.intro (by omega) (And.intro (by omega) (And.intro hbd ?_))
    rw [wrapSucc (by omega)]
    have hf' := (hf.swap (X.1, kw)).put (by rw [List.length_set]; omega) rfl
    rw [List.getElem_set_self] at hf'
    refine ⟨(a.1 + 1, a.2.1.set a.1 (X.1, kw), putL a.2.2 (a.1 * 3) [.int .i64 X.1.op, .string X.1.text, kw]), by kernel_rfl, ⟨⟨by show a.1 + 1 ≤ L.length; omega, hXm kw, hf', fun j hj hj2 => ?_⟩, by (try rw [set_same]); simp only [putL], by show h.n + 1 ≤ h2.n; omega, (hp.trans p2).set (Nat.le_refl _) _⟩, by show L.length - (a.1 + 1) < L.length - a.1; omega⟩
    have hj' : j < a.2.1.length := by rw [List.length_set] at hj; exact hj
    have hj3 : j < a.1 + 1 := hj2
    by_cases e : j = a.1
    · subst e
      dsimp only
      rw [List.getElem_set_self]
      exact ⟨rk.keep (Nat.le_refl _) (fun b hb => set_ne _ (by have := fr b hb; omega)), fun b hb => by have := fr b hb; omega⟩
    · dsimp only
      rw [List.getElem_set_ne (by omega)]
      have q := hkd j hj' (by omega)
      exact ⟨(q.1.pre p2).keep (Nat.le_refl _) (fun b hb => set_ne _ (by have := q.2 b hb; omega)), q.2⟩
  · have hn : a.1 = L.length := by omega
    rw [hn, ← hlen] at hf
    simp (maxSteps := 1000000) -implicitDefEqProofs only [push_cast, seval]
    refine ⟨_, a.2.1, rfl, hmap, ?_, fun x hx => ?_, hp, fun b hb => ?_⟩
    · rw [← hlen]
      exact hf.rdv encD_len ho lo
    · obtain ⟨j, hj, rfl⟩ := List.getElem_of_mem hx
      exact (hkd j hj (by omega)).1
    · rcases hb with e | ⟨x, hx, e⟩
      · have e' : h.n = b := e
        omega
      · obtain ⟨j, hj, rfl⟩ := List.getElem_of_mem hx
        have := (hkd j hj (by omega)).2 b e
        omega
end Go.Proofs.YtdlpdfclljnmhaaGreat
namespace Go.Proofs.YtdlpdfclljnmhaaGreat
open Go Go.Sim Go.Proofs
set_option linter.unusedSimpArgs false
set_option linter.unusedVariables false
set_option maxRecDepth 100000
set_option maxHeartbeats 1000000
theorem eqIntS_c (l m : List Int) (A B : Option Addr) (ca cb : Nat) (h : AH) (hA : RdE h A 1 encZ l) (hB : RdE h B 1 encZ m) (hl : l.length < 274877906944) (hm : m.length < 274877906944) :
    CD Tryz.prog 96 [.slice A l.length ca, .slice B m.length cb] h (.bool (decide (l = m))) h := by
  refine CD.withBig (fun big => ?_)
  refine CD.quiet ?_ (low_bool _ _)
  refine CC.ofN Tryz.func96 Tryz.ntmps96 Tryz.results96 rfl (by decide) (by kernel_rfl) ?_
  simp (maxSteps := 1000000) -implicitDefEqProofs only [push_cast, seval]
  with_reducible refine bcase_d (fun hb => ?_) (fun hb => ?_)
  rotate_left
  · simp (maxSteps := 1000000) -implicitDefEqProofs only [push_cast, seval]
    repeat' (first | with_reducible (first | exact Keep.refl _ _ | assumption | exact byte_lt _ _ | apply Keep.alloc | (refine Keep.set ?_ ?_; rotate_left; · omega) | apply Pre.alloc | apply Pre.set | exact Pre.refl _ | exact le_alloc _ | (refine Pre.keep ?_; assumption) | (refine Pre.n ?_; assumption)) | ((with_reducible (first | refine bcase_d (fun hb => ?_) (fun hb => ?_) | refine bcase_mk (fun hb => ?_) (fun hb => ?_))) <;> try simp (maxSteps := 1000000) -implicitDefEqProofs only [push_cast, seval]) | with_reducible refine And.intro ?_ ?_ | omega | (simp only [alloc_n, set_n, kill_n]; omega) | (exfalso; omega))
    have : l ≠ m := fun e => hb (by rw [e])
    simp [this]
  have hlm : l.length = m.length := by omega
  simp (maxSteps := 1000000) -implicitDefEqProofs only [push_cast, seval]
  refine WC.loopA (by kernel_rfl) [5] [4, 11, 12, 13, 14, 15, 16, 17, 18, 19, 20, 21, 22, 23, 24, 25] (fun a : Nat => [.int .i64 (a : Nat)]) (fun a h' => a ≤ l.length ∧ l.take a = m.take a ∧ Pre h h') (fun a => l.length - a) 0 (by kernel_rfl) ⟨Nat.zero_le _, by simp, Pre.refl _⟩ ?_
  intro a g h1 hJ
  have hi := hJ.1
  have he := hJ.2.1
  have hp := hJ.2.2
  clear hJ
  simp (maxSteps := 1000000) -implicitDefEqProofs only [push_cast, seval]
  with_reducible refine bcase_d (fun hb => ?_) (fun hb => ?_)
  · have hi' : a < l.length := by omega
    have hj' : a < m.length := by omega
    with_reducible refine hA.use big hp hi' (fun id off eA hlt hr => ?_)
    with_reducible refine hB.use big hp hj' (fun id2 off2 eB hlt2 hr2 => ?_)
    subst eA
    subst eB
    simp only [encZ, Nat.mul_one] at hr hr2
    have r0 := rd_1 hr
    have r02 := rd_1 hr2
    simp (maxSteps := 1000000) -implicitDefEqProofs only [push_cast, seval, hr, r0, hlt, hr2, r02, hlt2, Nat.mul_one]
    refine WC.draw' (by kernel_rfl) (by kernel_rfl) (.q 0 (.q 1 (.q 2 (.q 3 (.q 4 (.q 5 (.q 6 (.q 7 (.q 8 (.done)))))))))) (by kernel_rfl) ?_
    simp (maxSteps := 1000000) -implicitDefEqProofs only [push_cast, seval, hr, r0, hlt, hr2, r02, hlt2, Nat.mul_one]
    repeat (with_reducible refine And.intro ?_ ?_; · (first | omega | decide))
    with_reducible refine bcase_d (fun hb2 => ?_) (fun hb2 => ?_)
    · simp (maxSteps := 1000000) -implicitDefEqProofs only [push_cast, seval]
      rw [wrapSucc (by omega)]
      exact ⟨a + 1, by kernel_rfl, ⟨by show a + 1 ≤ l.length; omega, take_next he hi' hj' hb2, hp⟩, by show l.length - (a + 1) < l.length - a; omega⟩
    · simp (maxSteps := 1000000) -implicitDefEqProofs only [push_cast, seval]
      have : l ≠ m := fun e => by subst e; exact hb2 rfl
      exact ⟨by simp [this], hp.keep⟩
  · have hn : a = l.length := by omega
    subst hn
    simp (maxSteps := 1000000) -implicitDefEqProofs only [push_cast, seval]
    repeat' (first | with_reducible (first | exact Keep.refl _ _ | assumption | exact byte_lt _ _ | apply Keep.alloc | (refine Keep.set ?_ ?_; rotate_left; · omega) | apply Pre.alloc | apply Pre.set | exact Pre.refl _ | exact le_alloc _ | (refine Pre.keep ?_; assumption) | (refine Pre.n ?_; assumption)) | ((with_reducible (first | refine bcase_d (fun hb => ?_) (fun hb => ?_) | refine bcase_mk (fun hb => ?_) (fun hb => ?_))) <;> try simp (maxSteps := 1000000) -implicitDefEqProofs only [push_cast, seval]) | with_reducible refine And.intro ?_ ?_ | omega | (simp only [alloc_n, set_n, kill_n]; omega) | (exfalso; omega))
    have := take_full he hlm
    simp [this]

theorem eqRule_c (a b : Ru) (h : AH) : CD Tryz.prog 69 [.agg #[.int .i64 a.when_, .int .i64 a.cond, .int .i64 a.act], .agg #[.int .i64 b.when_, .int .i64 b.cond, .int .i64 b.act]] h (.bool (decide (a = b))) h := by
  refine CD.quiet ?_ (low_bool _ _)
  refine CC.ofN Tryz.func69 Tryz.ntmps69 Tryz.results69 rfl (by decide) (by kernel_rfl) ?_
  simp (maxSteps := 1000000) -implicitDefEqProofs only [push_cast, seval]
  repeat' (first | with_reducible (first | exact Keep.refl _ _ | assumption | exact byte_lt _ _ | apply Keep.alloc | (refine Keep.set ?_ ?_; rotate_left; · omega) | apply Pre.alloc | apply Pre.set | exact Pre.refl _ | exact le_alloc _ | (refine Pre.keep ?_; assumption) | (refine Pre.n ?_; assumption)) | ((with_reducible (first | refine bcase_d (fun hb => ?_) (fun hb => ?_) | refine bcase_mk (fun hb => ?_) (fun hb => ?_))) <;> try simp (maxSteps := 1000000) -implicitDefEqProofs only [push_cast, seval]) | with_reducible refine And.intro ?_ ?_ | omega | (simp only [alloc_n, set_n, kill_n]; omega) | (exfalso; omega))
  all_goals (obtain ⟨a1, a2, a3⟩ := a; obtain ⟨b1, b2, b3⟩ := b; simp_all [Ru.mk.injEq])
theorem eqRuleS_c (l m : List Ru) (A B : Option Addr) (ca cb : Nat) (h : AH) (hA : RdE h A 3 encU l) (hB : RdE h B 3 encU m) (hl : l.length < 274877906944) (hm : m.length < 274877906944) :
    CD Tryz.prog 38 [.slice A l.length ca, .slice B m.length cb] h (.bool (decide (l = m))) h := by
  refine CD.withBig (fun big => ?_)
  refine CD.quiet ?_ (low_bool _ _)
  refine CC.ofN Tryz.func38 Tryz.ntmps38 Tryz.results38 rfl (by decide) (by kernel_rfl) ?_
  simp (maxSteps := 1000000) -implicitDefEqProofs only [push_cast, seval]
  with_reducible refine bcase_d (fun hb => ?_) (fun hb => ?_)
  rotate_left
  · simp (maxSteps := 1000000) -implicitDefEqProofs only [push_cast, seval]
    repeat' (first | with_reducible (first | exact Keep.refl _ _ | assumption | exact byte_lt _ _ | apply Keep.alloc | (refine Keep.set ?_ ?_; rotate_left; · omega) | apply Pre.alloc | apply Pre.set | exact Pre.refl _ | exact le_alloc _ | (refine Pre.keep ?_; assumption) | (refine Pre.n ?_; assumption)) | ((with_reducible (first | refine bcase_d (fun hb => ?_) (fun hb => ?_) | refine bcase_mk (fun hb => ?_) (fun hb => ?_))) <;> try simp (maxSteps := 1000000) -implicitDefEqProofs only [push_cast, seval]) | with_reducible refine And.intro ?_ ?_ | omega | (simp only [alloc_n, set_n, kill_n]; omega) | (exfalso; omega))
    have : l ≠ m := fun e => hb (by rw [e])
    simp [this]
  have hlm : l.length = m.length := by omega
  simp (maxSteps := 1000000) -implicitDefEqProofs only [push_cast, seval]
  refine WC.loopA (by kernel_rfl) [5] [4, 11, 12, 13, 14, 15, 16, 17, 18, 19, 20, 21, 22, 23, 24, 25, 26] (fun a : Nat => [.int .i64 (a : Nat)]) (fun a h' => a ≤ l.length ∧ l.take a = m.take a ∧ Pre h h') (fun a => l.length - a) 0 (by kernel_rfl) ⟨Nat.zero_le _, by simp, Pre.refl _⟩ ?_
  intro a g h1 hJ
  have hi := hJ.1
  have he := hJ.2.1
  have hp := hJ.2.2
  clear hJ
  simp (maxSteps := 1000000) -implicitDefEqProofs only [push_cast, seval]
  with_reducible refine bcase_d (fun hb => ?_) (fun hb => ?_)
  · have hi' : a < l.length := by omega
    have hj' : a < m.length := by omega
    with_reducible refine hA.use big hp hi' (fun id off eA hlt hr => ?_)
    with_reducible refine hB.use big hp hj' (fun id2 off2 eB hlt2 hr2 => ?_)
    subst eA
    subst eB
    simp only [encU] at hr hr2
    simp (maxSteps := 1000000) -implicitDefEqProofs only [push_cast, seval, hr, hlt, hr2, hlt2]
    refine WC.draw' (by kernel_rfl) (by kernel_rfl) (.q 0 (.q 1 (.q 2 (.q 3 (.q 4 (.q 5 (.q 6 (.q 7 (.c 8 (.q 9 (.done))))))))))) (by kernel_rfl) ?_
    simp (maxSteps := 1000000) -implicitDefEqProofs only [push_cast, seval, hr, hlt, hr2, hlt2]
    repeat' (first | with_reducible (first | exact Keep.refl _ _ | assumption | exact byte_lt _ _ | apply Keep.alloc | (refine Keep.set ?_ ?_; rotate_left; · omega) | apply Pre.alloc | apply Pre.set | exact Pre.refl _ | exact le_alloc _ | (refine Pre.keep ?_; assumption) | (refine Pre.n ?_; assumption)) | ((with_reducible (first | refine CD.to (eqRule_c _ _ _) ?_ | refine CQ.pure (fun _ => eqRule_c _ _ _) ?_ | refine bcase_d (fun hb => ?_) (fun hb => ?_) | refine bcase_mk (fun hb => ?_) (fun hb => ?_))) <;> try simp (maxSteps := 1000000) -implicitDefEqProofs only [push_cast, seval, hr, hlt, hr2, hlt2]) | with_reducible refine And.intro ?_ ?_ | omega | (simp only [alloc_n, set_n, kill_n]; omega) | (exfalso; omega))
    · rw [wrapSucc (by omega)]
      refine ⟨a + 1, by kernel_rfl, ⟨by show a + 1 ≤ l.length; omega, take_next he hi' hj' ?_, hp⟩, by show l.length - (a + 1) < l.length - a; omega⟩
      simpa using hb
    · have : l ≠ m := fun e => by subst e; simp at hb
      simp [this]
  · have hn : a = l.length := by omega
    subst hn
    simp (maxSteps := 1000000) -implicitDefEqProofs only [push_cast, seval]
    repeat' (first | with_reducible (first | exact Keep.refl _ _ | assumption | exact byte_lt _ _ | apply Keep.alloc | (refine Keep.set ?_ ?_; rotate_left; · omega) | apply Pre.alloc | apply Pre.set | exact Pre.refl _ | exact le_alloc _ | (refine Pre.keep ?_; assumption) | (refine Pre.n ?_; assumption)) | ((with_reducible (first | refine bcase_d (fun hb => ?_) (fun hb => ?_) | refine bcase_mk (fun hb => ?_) (fun hb => ?_))) <;> try simp (maxSteps := 1000000) -implicitDefEqProofs only [push_cast, seval]) | with_reducible refine And.intro ?_ ?_ | omega | (simp only [alloc_n, set_n, kill_n]; omega) | (exfalso; omega))
    have := take_full he hlm
    simp [this]
theorem eqNode_c (op : Int) (s : ByteArray) (kids : List Int) (kv kw : Value) (h : AH) (r : RdV h kv 1 encZ kids) (q : RdV h kw 1 encZ kids) (hn : kids.length < 274877906944) :
    CD Tryz.prog 68 [.agg #[.int .i64 op, .string s, kv], .agg #[.int .i64 op, .string s, kw]] h (.bool true) h := by
  refine CD.withBig (fun big => ?_)
  refine CD.quiet ?_ (low_bool _ _)
  obtain ⟨A, cA, rfl, hA⟩ := r.rde (fun _ => rfl)
  obtain ⟨B, cB, rfl, hB⟩ := q.rde (fun _ => rfl)
  have pb : Pre h ((h.alloc (.cells [.int .i64 op, .string s, .slice A kids.length cA] .solo h.n)).alloc (.cells [.int .i64 op, .string s, .slice B kids.length cB] .solo (h.n + 1))) := ((Pre.refl _).alloc _).alloc _
  have k1 := eqIntS_c kids kids A B cA cB _ (hA.pre big pb) (hB.pre big pb) hn hn
  rw [decide_eq_true rfl] at k1
  refine CC.ofN Tryz.func68 Tryz.ntmps68 Tryz.results68 rfl (by decide) (by kernel_rfl) ?_
  simp (maxSteps := 1000000) -implicitDefEqProofs only [push_cast, seval]
  repeat' (first | with_reducible (first | exact Keep.refl _ _ | assumption | exact byte_lt _ _ | apply Keep.alloc | (refine Keep.set ?_ ?_; rotate_left; · omega) | apply Pre.alloc | apply Pre.set | exact Pre.refl _ | exact le_alloc _ | (refine Pre.keep ?_; assumption) | (refine Pre.n ?_; assumption)) | ((with_reducible (first | refine CD.to (k1) ?_ | refine CQ.pure (fun _ => k1) ?_ | refine bcase_d (fun hb => ?_) (fun hb => ?_) | refine bcase_mk (fun hb => ?_) (fun hb => ?_))) <;> try simp (maxSteps := 1000000) -implicitDefEqProofs only [push_cast, seval]) | with_reducible refine And.intro ?_ ?_ | omega | (simp only [alloc_n, set_n, kill_n]; omega) | (exfalso; omega))
theorem eqNodeS_c (L M : List (Nd × Value)) (A B : Option Addr) (ca cb : Nat) (h : AH) (hA : RdE h A 3 encD L) (hB : RdE h B 3 encD M) (kL : ∀ x ∈ L, RdV h x.2 1 encZ x.1.kids) (kM : ∀ x ∈ M, RdV h x.2 1 encZ x.1.kids) (e : L.map Prod.fst = M.map Prod.fst) (hk : ∀ x ∈ L, x.1.kids.length < 274877906944) (hl : L.length < 274877906944) :
    CD Tryz.prog 37 [.slice A L.length ca, .slice B M.length cb] h (.bool true) h := by
  refine CD.withBig (fun big => ?_)
  refine CD.quiet ?_ (low_bool _ _)
  have hlen : L.length = M.length := by have := congrArg List.length e; simpa using this
  refine CC.ofN Tryz.func37 Tryz.ntmps37 Tryz.results37 rfl (by decide) (by kernel_rfl) ?_
  simp (maxSteps := 1000000) -implicitDefEqProofs only [push_cast, seval]
  with_reducible refine bcase_d (fun hb => ?_) (fun hb => ?_)
  rotate_left
  · exfalso; omega
  simp (maxSteps := 1000000) -implicitDefEqProofs only [push_cast, seval]
  refine WC.loopA (by kernel_rfl) [5] [4, 11, 12, 13, 14, 15, 16, 17, 18, 19, 20, 21, 22, 23, 24, 25, 26] (fun a : Nat => [.int .i64 (a : Nat)]) (fun a h' => a ≤ L.length ∧ Pre h h') (fun a => L.length - a) 0 (by kernel_rfl) ⟨Nat.zero_le _, Pre.refl _⟩ ?_
  intro a g h1 hJ
  have hi := hJ.1
  have hp := hJ.2
  clear hJ
  simp (maxSteps := 1000000) -implicitDefEqProofs only [push_cast, seval]
  with_reducible refine bcase_d (fun hb => ?_) (fun hb => ?_)
  · have hi' : a < L.length := by omega
    have hj' : a < M.length := by omega
    have k1 := kL _ (List.getElem_mem hi')
    have k2 := kM _ (List.getElem_mem hj')
    have kz := hk _ (List.getElem_mem hi')
    have eX : M[a].1 = L[a].1 := by
      have : (M.map Prod.fst)[a]'(by rw [List.length_map]; exact hj') = (L.map Prod.fst)[a]'(by rw [List.length_map]; exact hi') := by simp only [e]
      simpa using this
    with_reducible refine hA.use big hp hi' (fun id off eA hlt hr => ?_)
    with_reducible refine hB.use big hp hj' (fun id2 off2 eB hlt2 hr2 => ?_)
    subst eA
    subst eB
    simp only [encD] at hr hr2
    rw [eX] at hr2 k2
    generalize M[a].2 = kw at *
    generalize L[a].2 = kv at *
    generalize L[a].1 = X at *
    have y1 := k1.one
    have y2 := rdv_cells k1
    have y3 := k2.one
    have y4 := rdv_cells k2
    simp (maxSteps := 1000000) -implicitDefEqProofs only [push_cast, seval, hr, hlt, hr2, hlt2, y1, y2, y3, y4]
    refine WC.draw' (by kernel_rfl) (by kernel_rfl) (.q 0 (.q 1 (.q 2 (.q 3 (.q 4 (.q 5 (.q 6 (.q 7 (.a 8 false (.q 9 (.done))))))))))) (by kernel_rfl) ?_
    simp (maxSteps := 1000000) -implicitDefEqProofs only [push_cast, seval, hr, hlt, hr2, hlt2, y1, y2, y3, y4]
    repeat (with_reducible refine And.intro ?_ ?_; · (first | omega | decide))
    with_reducible refine CD.to (eqNode_c X.op X.text X.kids kv kw h1 (k1.pre hp) (k2.pre hp) kz) ?_
    simp (maxSteps := 1000000) -implicitDefEqProofs only [push_cast, seval, hr, hlt, hr2, hlt2, y1, y2, y3, y4]
    rw [wrapSucc (by omega)]
    exact ⟨a + 1, by kernel_rfl, ⟨by omega, hp⟩, by omega⟩
  · simp (maxSteps := 1000000) -implicitDefEqProofs only [push_cast, seval]
    exact hp.keep
theorem toProgram_c (L : List (Nd × Value)) (R : List Ru) (vN vR : Value) (h : AH) (w : RdG h vN vR L R) (hz : SzG L R) :
    CC Tryz.prog 9 [.agg #[vN, vR]] h (fun v h' => ∃ wN wR D, v = .agg #[wN, wR] ∧ D.map Prod.fst = L.map Prod.fst ∧ RdG h' wN wR D R ∧ Pre h h') := by
  refine CC.withBig (fun big => ?_)
  have zn := hz.n
  have zr := hz.r
  have w0 := w
  obtain ⟨B, d, rfl, hN⟩ := w.nodes.rde encD_len
  obtain ⟨C, c, rfl, hR⟩ := w.rules.rde (fun _ => rfl)
  have p0 : Pre h (((h.alloc (.cells [.slice B L.length d, .slice C R.length c] .solo h.n)).alloc (.cells [.slice none 0 0, .slice none 0 0] .solo (h.n + 1))).alloc (.cells [.slice none 0 0, .slice none 0 0] .solo (h.n + 2))) := (((Pre.refl h).alloc _).alloc _).alloc _
  have a0 : (((h.alloc (.cells [.slice B L.length d, .slice C R.length c] .solo h.n)).alloc (.cells [.slice none 0 0, .slice none 0 0] .solo (h.n + 1))).alloc (.cells [.slice none 0 0, .slice none 0 0] .solo (h.n + 2))).ob h.n = .cells [.slice B L.length d, .slice C R.length c] .solo h.n := (by (try simp (maxSteps := 1000000) -implicitDefEqProofs only [push_cast, seval, rdOb]); try rfl)
  have b0 : (((h.alloc (.cells [.slice B L.length d, .slice C R.length c] .solo h.n)).alloc (.cells [.slice none 0 0, .slice none 0 0] .solo (h.n + 1))).alloc (.cells [.slice none 0 0, .slice none 0 0] .solo (h.n + 2))).ob (h.n + 1) = .cells [.slice none 0 0, .slice none 0 0] .solo (h.n + 1) := (by (try simp (maxSteps := 1000000) -implicitDefEqProofs only [push_cast, seval, rdOb]); try rfl)
  have c0 : (((h.alloc (.cells [.slice B L.length d, .slice C R.length c] .solo h.n)).alloc (.cells [.slice none 0 0, .slice none 0 0] .solo (h.n + 1))).alloc (.cells [.slice none 0 0, .slice none 0 0] .solo (h.n + 2))).ob (h.n + 2) = .cells [.slice none 0 0, .slice none 0 0] .solo (h.n + 2) := (by (try simp (maxSteps := 1000000) -implicitDefEqProofs only [push_cast, seval, rdOb]); try rfl)
  have n0 : (((h.alloc (.cells [.slice B L.length d, .slice C R.length c] .solo h.n)).alloc (.cells [.slice none 0 0, .slice none 0 0] .solo (h.n + 1))).alloc (.cells [.slice none 0 0, .slice none 0 0] .solo (h.n + 2))).n = h.n + 3 := rfl
  refine CC.ofN Tryz.func9 Tryz.ntmps9 Tryz.results9 rfl (by decide) (by kernel_rfl) ?_
  simp (maxSteps := 1000000) -implicitDefEqProofs only [push_cast, seval]
  generalize (((h.alloc (.cells [.slice B L.length d, .slice C R.length c] .solo h.n)).alloc (.cells [.slice none 0 0, .slice none 0 0] .solo (h.n + 1))).alloc (.cells [.slice none 0 0, .slice none 0 0] .solo (h.n + 2))) = H0 at *
  with_reducible refine CC.mono (toNodeS_c L B d _ (hN.pre big p0) (fun x hx => (w0.kids x hx).pre p0) (fun x hx => by have := hz.kids x hx; omega) (by omega)) (fun v H1 hv => ?_)
  with_reducible refine Exists.elim hv (fun wN hw => ?_)
  with_reducible refine Exists.elim hw (fun D hw => ?_)
  have e1 := hw.1
  have eD := hw.2.1
  have rN := hw.2.2.1
  have rK := hw.2.2.2.1
  have p1 := hw.2.2.2.2.1
  have fr := hw.2.2.2.2.2
  clear hv hw
  subst e1
  have a1 := (p1.ob h.n (by omega)).trans a0
  have b1 := (p1.ob (h.n + 1) (by omega)).trans b0
  have c1 := (p1.ob (h.n + 2) (by omega)).trans c0
  have n1 := p1.n
  have z1 := rN.one
  have z2 := rdv_cells rN
  have l1 : h.n < H1.n := by omega
  have l2 : h.n + 2 < H1.n := by omega
  simp (maxSteps := 1000000) -implicitDefEqProofs only [push_cast, seval, a1, rd_of a1, rd1_of a1, c1, rd_of c1, rd1_of c1, l1, l2, z1, z2]
  have p2 : Pre h (H1.set (h.n + 2) (.cells [v, .slice none 0 0] .solo (h.n + 2))) := (p0.trans p1).set (by omega) _
  have b2 := (set_ne (h := H1) (o := .cells [v, .slice none 0 0] .solo (h.n + 2)) (show h.n + 1 ≠ h.n + 2 by omega)).trans b1
  have c2 : (H1.set (h.n + 2) (.cells [v, .slice none 0 0] .solo (h.n + 2))).ob (h.n + 2) = _ := set_same _ _
  have rN2 : RdV (H1.set (h.n + 2) (.cells [v, .slice none 0 0] .solo (h.n + 2))) v 3 encD D := rN.keep (Nat.le_refl _) (fun i e => set_ne _ (by have := fr i (.inl e); omega))
  have rK2 : ∀ x ∈ D, RdV (H1.set (h.n + 2) (.cells [v, .slice none 0 0] .solo (h.n + 2))) x.2 1 encZ x.1.kids := fun x hx => (rK x hx).keep (Nat.le_refl _) (fun i e => set_ne _ (by have := fr i (.inr ⟨x, hx, e⟩); omega))
  have n2 : (H1.set (h.n + 2) (.cells [v, .slice none 0 0] .solo (h.n + 2))).n = H1.n := rfl
  clear rN rK
  generalize (H1.set (h.n + 2) (.cells [v, .slice none 0 0] .solo (h.n + 2))) = H2 at *
  with_reducible refine CC.mono (toRuleS_c R C c _ (hR.pre big p2) (by omega)) (fun v2 h1 hv => ?_)
  with_reducible refine Exists.elim hv (fun cs hw => ?_)
  have e1 := hw.1
  have e2 := hw.2.1
  have f1 := hw.2.2
  clear hv hw
  subst e1 e2
  have p3 : Pre H2 (H2.alloc (.cells cs .solo H2.n)) := (Pre.refl _).alloc _
  have d3 : (H2.alloc (.cells cs .solo H2.n)).ob H2.n = _ := alloc_same _
  have n3 : (H2.alloc (.cells cs .solo H2.n)).n = H2.n + 1 := rfl
  generalize (H2.alloc (.cells cs .solo H2.n)) = H3 at *
  have b3 := (p3.ob (h.n + 1) (by omega)).trans b2
  have c3 := (p3.ob (h.n + 2) (by omega)).trans c2
  have l2 : h.n + 2 < H3.n := by omega
  have l3 : h.n + 1 < H3.n := by omega
  simp (maxSteps := 1000000) -implicitDefEqProofs only [push_cast, seval, b3, rd_of b3, rd1_of b3, c3, rd_of c3, rd1_of c3, l2, l3, z1, z2]
  have pre := p2.trans p3
  refine ⟨_, _, D, rfl, eD, ⟨(rN2.pre p3).keep (Nat.le_refl _) (fun i e => by have := fr i (.inl e); rw [set_ne _ (by omega), set_ne _ (by omega)]), fun x hx => ((rK2 x hx).pre p3).keep (Nat.le_refl _) (fun i e => by have := fr i (.inr ⟨x, hx, e⟩); rw [set_ne _ (by omega), set_ne _ (by omega)]), f1.rdv (fun _ => rfl) (st := .solo) (ln := H2.n) (by rw [set_ne _ (by omega), set_ne _ (by omega)]; exact d3) (by show H2.n < H3.n; omega)⟩, (pre.set (by omega) _).set (by omega) _⟩
theorem eqProgram_c (L M : List (Nd × Value)) (R : List Ru) (vN vR wN wR : Value) (h : AH) (w : RdG h vN vR L R) (w' : RdG h wN wR M R) (e : L.map Prod.fst = M.map Prod.fst) (hz : SzG L R) :
    CD Tryz.prog 11 [.agg #[vN, vR], .agg #[wN, wR]] h (.bool true) h := by
  refine CD.withBig (fun big => ?_)
  refine CD.quiet ?_ (low_bool _ _)
  have zn := hz.n
  have zr := hz.r
  have w0 := w
  have w0' := w'
  obtain ⟨B, d, rfl, hN⟩ := w.nodes.rde encD_len
  obtain ⟨C, c, rfl, hR⟩ := w.rules.rde (fun _ => rfl)
  obtain ⟨B', d', rfl, hN'⟩ := w'.nodes.rde encD_len
  obtain ⟨C', c', rfl, hR'⟩ := w'.rules.rde (fun _ => rfl)
  have pb : Pre h ((h.alloc (.cells [.slice B L.length d, .slice C R.length c] .solo h.n)).alloc (.cells [.slice B' M.length d', .slice C' R.length c'] .solo (h.n + 1))) := ((Pre.refl _).alloc _).alloc _
  have k1 := eqNodeS_c L M B B' d d' _ (hN.pre big pb) (hN'.pre big pb) (fun x hx => (w0.kids x hx).pre pb) (fun x hx => (w0'.kids x hx).pre pb) e (fun x hx => by have := hz.kids x hx; omega) (by omega)
  have k2 := eqRuleS_c R R C C' c c' _ (hR.pre big pb) (hR'.pre big pb) (by omega) (by omega)
  rw [decide_eq_true rfl] at k2
  refine CC.ofN Tryz.func11 Tryz.ntmps11 Tryz.results11 rfl (by decide) (by kernel_rfl) ?_
  simp (maxSteps := 1000000) -implicitDefEqProofs only [push_cast, seval]
  repeat' (first | with_reducible (first | exact Keep.refl _ _ | assumption | exact byte_lt _ _ | apply Keep.alloc | (refine Keep.set ?_ ?_; rotate_left; · omega) | apply Pre.alloc | apply Pre.set | exact Pre.refl _ | exact le_alloc _ | (refine Pre.keep ?_; assumption) | (refine Pre.n ?_; assumption)) | ((with_reducible (first | refine CD.to (k1) ?_ | refine CQ.pure (fun _ => k1) ?_ | refine CD.to (k2) ?_ | refine CQ.pure (fun _ => k2) ?_ | refine bcase_d (fun hb => ?_) (fun hb => ?_) | refine bcase_mk (fun hb => ?_) (fun hb => ?_))) <;> try simp (maxSteps := 1000000) -implicitDefEqProofs only [push_cast, seval]) | with_reducible refine And.intro ?_ ?_ | omega | (simp only [alloc_n, set_n, kill_n]; omega) | (exfalso; omega))
theorem szProgram_c (L : List (Nd × Value)) (R : List Ru) (vN vR : Value) (l : Int) (h : AH) (w : RdG h vN vR L R) (hz : ∀ x ∈ L, x.1.text.size ≤ maxLen ∧ x.1.kids.length ≤ maxLen) (hn : L.length ≤ maxLen) (hr : R.length ≤ maxLen) (hl : 0 ≤ l ∧ l ≤ 1048576) :
    CD Tryz.prog 7 [.agg #[vN, vR], .int .i64 l] h (.int .i64 (if l - progW L R < 0 then -1 else l - progW L R)) h := by
  refine CD.withBig (fun big => ?_)
  refine CD.quiet ?_ (low_int _ _ _)
  have w0 := w
  obtain ⟨B, d, rfl, hN⟩ := w.nodes.rde encD_len
  obtain ⟨C, c, rfl, hR⟩ := w.rules.rde (fun _ => rfl)
  have pA : Pre h (h.alloc (.cells [.slice B L.length d, .slice C R.length c] .solo h.n)) := (Pre.refl h).alloc _
  have c0 : (h.alloc (.cells [.slice B L.length d, .slice C R.length c] .solo h.n)).ob h.n = _ := alloc_same _
  have n0 : (h.alloc (.cells [.slice B L.length d, .slice C R.length c] .solo h.n)).n = h.n + 1 := rfl
  have hw : (progW L R : Int) = (L.length + nodW L L.length : Nat) + R.length := by rw [progW]; push_cast; rfl
  refine CC.ofN Tryz.func7 Tryz.ntmps7 Tryz.results7 rfl (by decide) (by kernel_rfl) ?_
  simp (maxSteps := 1000000) -implicitDefEqProofs only [push_cast, seval]
  generalize (h.alloc (.cells [.slice B L.length d, .slice C R.length c] .solo h.n)) = h0 at *
  have l0 : h.n < h0.n := by omega
  with_reducible refine CD.to (szNodeS_c L B d l h0 (hN.pre big pA) (fun x hx => (w0.kids x hx).pre pA) hz hn hl) ?_
  with_reducible refine nameI2 (if l - (L.length + nodW L L.length : Nat) < 0 then -1 else l - (L.length + nodW L L.length : Nat)) (fun l1 h1 => ?_)
  have g1 := lt_of_if2 h1
  rw [h1]
  simp (maxSteps := 1000000) -implicitDefEqProofs only [push_cast, seval]
  with_reducible refine bcase_d (fun hb1 => ?_) (fun hb1 => ?_)
  · simp (maxSteps := 1000000) -implicitDefEqProofs only [push_cast, seval]
    refine ⟨?_, pA.keep⟩
    rw [if_pos (by omega)]
  simp (maxSteps := 1000000) -implicitDefEqProofs only [push_cast, seval, c0, rd_of c0, rd1_of c0, l0]
  with_reducible refine CD.to (szRuleS_c R.length C c l1 h0 hr (by omega)) ?_
  with_reducible refine nameI2 (if l1 - (R.length : Nat) < 0 then -1 else l1 - (R.length : Nat)) (fun l2 h2 => ?_)
  have g2 := lt_of_if2 h2
  rw [h2]
  simp (maxSteps := 1000000) -implicitDefEqProofs only [push_cast, seval]
  with_reducible refine bcase_d (fun hb2 => ?_) (fun hb2 => ?_)
  · simp (maxSteps := 1000000) -implicitDefEqProofs only [push_cast, seval]
    refine ⟨?_, pA.keep⟩
    rw [if_pos (by omega)]
  · simp (maxSteps := 1000000) -implicitDefEqProofs only [push_cast, seval]
    refine ⟨?_, pA.keep⟩
    rw [if_neg (by omega)]
    congr 1
    omega
end Go.Proofs.YtdlpdfclljnmhaaGreat
namespace Go.Proofs.YtdlpdfclljnmhaaGreat
open Go Go.Sim Go.Proofs
set_option linter.unusedSimpArgs false
set_option linter.unusedVariables false
set_option maxRecDepth 100000
set_option maxHeartbeats 1000000
theorem SzG.of {L D : List (Nd × Value)} {R : List Ru} (z : SzG L R) (e : D.map Prod.fst = L.map Prod.fst) : SzG D R := by
  have hlen : D.length = L.length := by have := congrArg List.length e; simpa using this
  have key : ∀ x ∈ D, ∃ y ∈ L, y.1 = x.1 := fun x hx => by
    have : x.1 ∈ L.map Prod.fst := by rw [← e]; exact List.mem_map.2 ⟨x, hx, rfl⟩
    exact List.mem_map.1 this
  refine ⟨by rw [hlen]; exact z.n, z.r, fun x hx => ?_, fun x hx => ?_⟩
  · obtain ⟨y, hy, e2⟩ := key x hx
    rw [← e2]; exact z.text y hy
  · obtain ⟨y, hy, e2⟩ := key x hx
    rw [← e2]; exact z.kids y hy
theorem nodW_mem {L : List (Nd × Value)} {x : Nd × Value} (h : x ∈ L) : x.1.text.size + x.1.kids.length ≤ nodW L L.length := by
  obtain ⟨i, hi, rfl⟩ := List.getElem_of_mem h
  have := nodW_succ hi
  have := nodW_mono (L := L) (i := i + 1) (j := L.length) (by omega) (Nat.le_refl _)
  omega
theorem SzG.ofW {L : List (Nd × Value)} {R : List Ru} (h : progW L R ≤ 1048576) : SzG L R := by
  unfold progW at h
  exact ⟨by omega, by omega, fun x hx => by have := nodW_mem hx; omega, fun x hx => by have := nodW_mem hx; omega⟩
end Go.Proofs.YtdlpdfclljnmhaaGreat
namespace Go.Proofs.YtdlpdfclljnmhaaGreat
open Go Go.Sim Go.Proofs
set_option linter.unusedSimpArgs false
set_option linter.unusedVariables false
set_option maxRecDepth 100000
set_option maxHeartbeats 1000000
theorem law_Mergeable (L : List (Nd × Value)) (R : List Ru) (vN vR : Value) (h : AH) (r0 : RdG h vN vR L R) (hz0 : ∀ x ∈ L, x.1.text.size ≤ maxLen ∧ x.1.kids.length ≤ maxLen) (hn0 : L.length ≤ maxLen) (hr0 : R.length ≤ maxLen) (big : Big h) : CE Tryz.prog 4 [.agg #[vN, vR]] h fun v _ => v = .bool true := by
  have u00 := r0.nodes.one
  have u01 := r0.rules.one
  have pb : Pre h (h.alloc (.cells [vN, vR] .solo h.n)) := (Pre.refl _).alloc _
  have hS := szProgram_c L R vN vR 1048576 _ (r0.pre pb) hz0 hn0 hr0 (by omega)
  refine CE.ofN Tryz.func4 Tryz.ntmps4 Tryz.results4 rfl (by kernel_rfl) ?_
  simp (maxSteps := 1000000) -implicitDefEqProofs only [push_cast, seval, u00, u01]
  repeat (with_reducible refine And.intro ?_ ?_; · (first | omega | decide))
  with_reducible refine CD.to hS ?_
  simp (maxSteps := 1000000) -implicitDefEqProofs only [push_cast, seval]
  with_reducible refine bcase_d (fun hb => ?_) (fun hb => ?_)
  · simp (maxSteps := 1000000) -implicitDefEqProofs only [push_cast, seval]
  have hw : progW L R ≤ 1048576 := by
    by_cases e : (1048576 : Int) - progW L R < 0
    · exact absurd (by rw [if_pos e]; decide) hb
    · omega
  have hz := SzG.ofW hw
  simp (maxSteps := 1000000) -implicitDefEqProofs only [push_cast, seval, u00, u01]
  with_reducible refine CC.mono (toProgram_c L R vN vR _ (r0.pre pb) hz) (fun v h1 hv => ?_)
  with_reducible refine Exists.elim hv (fun a1 hw => ?_)
  with_reducible refine Exists.elim hw (fun b1 hw => ?_)
  with_reducible refine Exists.elim hw (fun D1 hw => ?_)
  have e1 := hw.1
  have m1 := hw.2.1
  have r1 := hw.2.2.1
  have p1 := hw.2.2.2
  clear hv hw
  subst e1
  have z1 := hz.of m1
  have u10 := r1.nodes.one
  have u11 := r1.rules.one
  have q1 : Pre h h1 := pb.trans p1
  have l1 : h.n < h1.n := Nat.lt_of_lt_of_le (lt_alloc _) p1.n
  have o1 : h1.ob h.n = _ := (p1.ob _ (lt_alloc _)).trans (alloc_same _)
  simp (maxSteps := 1000000) -implicitDefEqProofs only [push_cast, seval, o1, rd_of o1, rd1_of o1, l1]
  have hO1 := Mergeable_s D1 R a1 b1 _ r1 z1
  rw [m1] at hO1
  with_reducible refine CD.to hO1 ?_
  simp (maxSteps := 1000000) -implicitDefEqProofs only [push_cast, seval, o1, rd_of o1, rd1_of o1, l1, u00, u01]
  with_reducible refine CC.mono (toProgram_c L R vN vR _ (r0.pre q1) hz) (fun v h2 hv => ?_)
  with_reducible refine Exists.elim hv (fun a2 hw => ?_)
  with_reducible refine Exists.elim hw (fun b2 hw => ?_)
  with_reducible refine Exists.elim hw (fun D2 hw => ?_)
  have e1 := hw.1
  have m2 := hw.2.1
  have r2 := hw.2.2.1
  have p2 := hw.2.2.2
  clear hv hw
  subst e1
  have z2 := hz.of m2
  have u20 := r2.nodes.one
  have u21 := r2.rules.one
  have q2 : Pre h h2 := q1.trans p2
  have l2 : h.n < h2.n := Nat.lt_of_lt_of_le l1 p2.n
  have o2 : h2.ob h.n = _ := (p2.ob _ l1).trans o1
  simp (maxSteps := 1000000) -implicitDefEqProofs only [push_cast, seval, o2, rd_of o2, rd1_of o2, l2, u20, u21]
  have p3 : Pre h2 ((h2.alloc (.cells [.slice none 0 0, .slice none 0 0] .solo h2.n)).set h2.n (.cells [a2, b2] .solo h2.n)) := ((Pre.refl h2).alloc _).set (Nat.le_refl _) _
  have o3 : ((h2.alloc (.cells [.slice none 0 0, .slice none 0 0] .solo h2.n)).set h2.n (.cells [a2, b2] .solo h2.n)).ob h2.n = AOb.cells [a2, b2] .solo h2.n := set_same _ _
  have n3 : ((h2.alloc (.cells [.slice none 0 0, .slice none 0 0] .solo h2.n)).set h2.n (.cells [a2, b2] .solo h2.n)).n = h2.n + 1 := rfl
  generalize ((h2.alloc (.cells [.slice none 0 0, .slice none 0 0] .solo h2.n)).set h2.n (.cells [a2, b2] .solo h2.n)) = h3 at *
  have m3 : h2.n < h3.n := by omega
  have l3 : h.n < h3.n := by omega
  have o33 : h3.ob h.n = _ := (p3.ob _ l2).trans o2
  have q3 := q2.trans p3
  have hO2 := Mergeable_i D2 R a2 b2 _ (r2.pre p3) z2
  rw [m2] at hO2
  with_reducible refine CD.to hO2 ?_
  simp (maxSteps := 1000000) -implicitDefEqProofs only [push_cast, seval, o3, rd_of o3, rd1_of o3, o33, rd_of o33, rd1_of o33, m3, l3, u20, u21]
  with_reducible refine bcase_mk (fun hb2 => ?_) (fun hb2 => ?_)
  rotate_left
  · simp at hb2
  simp (maxSteps := 1000000) -implicitDefEqProofs only [push_cast, seval]
  refine WC.draw' (by kernel_rfl) (by kernel_rfl) (.q 0 (.q 1 (.a 2 false (.a 3 false (.q 4 (.done)))))) (by kernel_rfl) ?_
  simp (maxSteps := 1000000) -implicitDefEqProofs only [push_cast, seval, o3, rd_of o3, rd1_of o3, o33, rd_of o33, rd1_of o33, m3, l3, u00, u01, u20, u21]
  with_reducible refine CC.mono (toProgram_c L R vN vR _ (r0.pre q3) hz) (fun v h4 hv => ?_)
  with_reducible refine Exists.elim hv (fun a4 hw => ?_)
  with_reducible refine Exists.elim hw (fun b4 hw => ?_)
  with_reducible refine Exists.elim hw (fun D4 hw => ?_)
  have e1 := hw.1
  have m4 := hw.2.1
  have r4 := hw.2.2.1
  have p4 := hw.2.2.2
  clear hv hw
  subst e1
  have z4 := hz.of m4
  have u40 := r4.nodes.one
  have u41 := r4.rules.one
  have o4 : h4.ob h2.n = _ := (p4.ob _ m3).trans o3
  have o44 : h4.ob h.n = _ := (p4.ob _ l3).trans o33
  have m5 : h2.n < h4.n := Nat.lt_of_lt_of_le m3 p4.n
  simp (maxSteps := 1000000) -implicitDefEqProofs only [push_cast, seval, o4, rd_of o4, rd1_of o4, o44, rd_of o44, rd1_of o44, o3, o33, m5, u20, u21, u40, u41]
  with_reducible refine CD.to (eqProgram_c D2 D4 R a2 b2 a4 b4 h4 (r2.pre (p3.trans p4)) r4 (m2.trans m4.symm) z2) ?_
  simp (maxSteps := 1000000) -implicitDefEqProofs only [push_cast, seval, o4, rd_of o4, rd1_of o4, o44, rd_of o44, rd1_of o44, o3, o33, m5, u20, u21, u40, u41]
end Go.Proofs.YtdlpdfclljnmhaaGreat
