/- Parts of the proof of the row: the ground, contracts of the functions that it reaches (L36, L37, P8, L38, L39, L40, L41, P9, L42, L43). Conditions: those that each theorem names. -/
import Derived.Test.YtfbcedjheempfaaB5
namespace Go.Proofs.Ytfbcedjheempfaa
open Go Go.Sim Go.Proofs
set_option linter.unusedSimpArgs false
set_option linter.unusedVariables false
set_option maxRecDepth 100000
set_option maxHeartbeats 1000000
theorem l01Long_c (n x : Nat) (hn : n < 100000) (hx : x < 256) (h : AH) : CC Try.prog 109 [.int .i64 (n : Nat), .int .u8 (x : Nat)] h (fun v h' => (∃ y : ByteArray, v = .string y ∧ y.size = n) ∧ h' = h) := by
  refine CC.quiet (R := fun v => ∃ y : ByteArray, v = .string y ∧ y.size = n) ?_ (fun v ⟨y, e, _⟩ => by subst e; exact low_string _ _)
  refine CC.ofN Try.func109 Try.ntmps109 Try.results109 rfl (by decide) (by kernel_rfl) ?_
  simp (maxSteps := 1000000) -implicitDefEqProofs only [push_cast, seval]
  repeat (with_reducible refine And.intro ?_ ?_; · (first | omega | decide))
  rw [Nat.mul_one]
  refine WC.loopA (by kernel_rfl) [6] [9, 10, 11, 12, 13, 14, 15, 16, 17] (fun a : Nat × List Nat => [.int .i64 (a.1 : Nat)]) (fun a h' => h' = h.alloc (.cells (a.2.map fun b => .int .u8 (b : Nat)) .solo h.n) ∧ a.2.length = n ∧ a.1 ≤ n) (fun a => n - a.1) (0, List.replicate n 0) (by kernel_rfl) ⟨by simp, by simp, Nat.zero_le _⟩ ?_
  intro a g h1 hJ
  have hh := hJ.1
  have hl := hJ.2.1
  have hi := hJ.2.2
  clear hJ
  subst hh
  simp (maxSteps := 1000000) -implicitDefEqProofs only [push_cast, seval]
  with_reducible refine bcase_d (fun hb => ?_) (fun hb => ?_)
  · have hi' : a.1 < n := by omega
    have el : ((a.2.map fun b => Value.int .u8 (b : Nat))).length = n := by rw [List.length_map, hl]
    have ez : a.1 * 1 + 1 ≤ n := by omega
    simp (maxSteps := 1000000) -implicitDefEqProofs only [push_cast, seval, el, ez]
    refine And.intro (by omega) (And.intro (by omega) ?_)
    rw [wrapSucc (by omega)]
    refine ⟨(a.1 + 1, a.2.set a.1 x), by kernel_rfl, ⟨?_, by simp [hl], by show a.1 + 1 ≤ n; omega⟩, by show n - (a.1 + 1) < n - a.1; omega⟩
    rw [alloc_set, List.map_set, Nat.mul_one]
  · have er : rd (h.alloc (.cells (a.2.map fun b => .int .u8 (b : Nat)) .solo h.n)) h.n 0 n = some (a.2.map fun b => .int .u8 (b : Nat)) := by
      rw [rd_alloc_same, rdO_cells, if_pos (by simp [hl])]
      rw [List.drop_zero, List.take_of_length_le (by simp [hl])]
    simp (maxSteps := 1000000) -implicitDefEqProofs only [push_cast, seval, er, toBytes_nat]
    repeat' (first | with_reducible (first | exact Keep.refl _ _ | assumption | exact byte_lt _ _ | apply Keep.alloc | (refine Keep.set ?_ ?_; rotate_left; · omega) | apply Pre.alloc | apply Pre.set | exact Pre.refl _ | exact le_alloc _ | (refine Pre.keep ?_; assumption) | (refine Pre.n ?_; assumption)) | ((with_reducible (first | refine bcase_d (fun hb => ?_) (fun hb => ?_) | refine bcase_mk (fun hb => ?_) (fun hb => ?_))) <;> try simp (maxSteps := 1000000) -implicitDefEqProofs only [push_cast, seval]) | with_reducible refine And.intro ?_ ?_ | omega | (simp only [alloc_n, set_n, kill_n]; omega) | (exfalso; omega))
    exact ⟨_, rfl, by simp [ByteArray.size, hl]⟩
def addV (s : Store) (n : ByteArray) : Store := ⟨s.vars ++ [⟨n, ⟨#[]⟩⟩], s.cells, s.out⟩
def addC (s : Store) (n : ByteArray) : Store := ⟨s.vars, s.cells ++ [⟨n, ⟨#[]⟩, ⟨#[]⟩⟩], s.out⟩
theorem Dn.to {p : Nat} {S : Value} {l : List Nat} {h h' h'' : AH} (d : Dn p S l h h') (hp : p < h.n) (hn : h'.n ≤ h''.n) (e : ∀ i, i < h.n → i ≠ p → h''.ob i = h'.ob i) (ep : h''.ob p = h'.ob p) : Dn p S l h h'' :=
  ⟨Nat.le_trans d.n hn, fun j h1 h2 => (e j h1 h2).trans (d.ob j h1 h2), d.cur.pre ep⟩
/-- A drawn store, right or not. -/
theorem l08Any_c (p : Nat) (S : Value) (l : List Nat) (h : AH) (d : Dw p S l h) :
    CC Try.prog 70 [.pointer (some ⟨p, 0, none⟩)] h (fun v h' => ∃ vA vB st, v = .agg #[vA, vB, .string st.out] ∧ SzB st ∧ OwnT h h' vA vB st ∧ Dn p S l h h') := by
  have hp := d.lt
  refine CC.ofN Try.func70 Try.ntmps70 Try.results70 rfl (by decide) (by kernel_rfl) ?_
  simp (maxSteps := 1000000) -implicitDefEqProofs only [push_cast, seval]
  with_reducible refine CC.mono (l08Store_c p S l _ (d.pre ((Pre.refl h).alloc _))) (fun v h1 hv => ?_)
  with_reducible refine Exists.elim hv (fun vA hv => ?_)
  with_reducible refine Exists.elim hv (fun vB hv => ?_)
  with_reducible refine Exists.elim hv (fun st hv => ?_)
  have e1 := hv.1
  have ok := hv.2.1
  have o1 := hv.2.2.1
  have d1 := hv.2.2.2
  clear hv
  subst e1
  have y1 := o1.one.1
  have y2 := o1.one.2
  have n1 : h.n + 1 ≤ h1.n := d1.n
  have g1 : h1.ob h.n = _ := (d1.ob h.n (Nat.lt_succ_self _) (by omega)).trans (alloc_same _)
  have db : Dn p S l h h1 := (d.toDn ((Pre.refl h).alloc _)).trans d1
  simp (maxSteps := 1000000) -implicitDefEqProofs only [push_cast, seval, y1, y2]
  with_reducible refine CC.mono (l08Copy_c st vA vB _ o1.rdt (ok_szB ok).sz) (fun v h2 hv => ?_)
  with_reducible refine Exists.elim hv (fun rA hv => ?_)
  with_reducible refine Exists.elim hv (fun rB hv => ?_)
  have e1 := hv.1
  have o2 := hv.2.1
  have p2 := hv.2.2
  clear hv
  subst e1
  have n2 := p2.n
  have g2 : h2.ob h.n = _ := (p2.ob h.n (by omega)).trans g1
  have y3 := o2.one.1
  have y4 := o2.one.2
  simp (maxSteps := 1000000) -implicitDefEqProofs only [push_cast, seval, y3, y4]
  have pa : Pre h2 ((h2.alloc (AOb.cells [.slice none 0 0, .slice none 0 0, .string ⟨#[]⟩] .solo h2.n)).set h2.n (AOb.cells [rA, rB, .string st.out] .solo h2.n)) := ((Pre.refl h2).alloc _).set (Nat.le_refl _) _
  have db3 := (db.pre hp p2).pre hp pa
  have dw3 := d.dn db3
  with_reducible refine CC.num (l01Below_c p S l _ _ dw3) (fun y h3 q3 d3 => ?_)
  have n3 : h2.n + 1 ≤ h3.n := d3.n
  have g3 : h3.ob h.n = _ := (d3.ob h.n (by show h.n < h2.n + 1; omega) (by omega)).trans ((set_ne _ (by omega)).trans ((alloc_lt _ (by omega)).trans g2))
  have k3 : h3.ob h2.n = AOb.cells [rA, rB, .string st.out] .solo h2.n := (d3.ob h2.n (Nat.lt_succ_self _) (by omega)).trans (set_same _ _)
  have o3 : OwnT h1 h3 rA rB st := (o2.pre pa).dn (by omega) d3
  have l3 : h.n < h3.n := by omega
  have m3 : h2.n < h3.n := by omega
  have dwx := dw3.dn d3
  have dbx := db3.trans d3
  have lo : ∀ i, (atBlock rA i ∨ atBlock rB i) → i < h2.n := fun i e => (o2.range e).2
  clear g1 g2 o2 d1 db db3 dw3 d3 pa
  simp (maxSteps := 1000000) -implicitDefEqProofs only [push_cast, seval, k3, rd_of k3, rd1_of k3, m3]
  with_reducible refine bcase_d (fun hb => ?_) (fun hb => ?_)
  · simp (maxSteps := 1000000) -implicitDefEqProofs only [push_cast, seval, k3, rd_of k3, rd1_of k3, m3]
    refine WC.draw' (by kernel_rfl) (by kernel_rfl) (.q 0 (.q 1 (.q 2 (.a 3 false (.a 4 false (.q 5 (.a 6 false (.a 7 false (.q 8 (.a 9 true (.done))))))))))) (by kernel_rfl) ?_
    simp (maxSteps := 1000000) -implicitDefEqProofs only [push_cast, seval, k3, rd_of k3, rd1_of k3, m3, y3, y4]
    have dA := dwx.toDn ((Pre.refl h3).alloc (AOb.cells [Value.string ⟨#[97]⟩, Value.string ⟨#[122, 122]⟩, Value.string ⟨#[49]⟩] .solo h3.n))
    have oA := o3.alloc (AOb.cells [Value.string ⟨#[97]⟩, Value.string ⟨#[122, 122]⟩, Value.string ⟨#[49]⟩] .solo h3.n)
    with_reducible refine CC.txt (l01Pick_c p S l h3.n 3 (fun y => y.size ≤ 2) _ _ (dwx.dn dA) (alloc_same _) (by simp only [strs]; decide) rfl (by omega) (lt_alloc _)) (fun nm h4 qn d4 => ?_)
    have n4 : h3.n + 1 ≤ h4.n := d4.n
    have k4 : h4.ob h2.n = _ := (d4.ob _ (by show h2.n < h3.n + 1; omega) (by omega)).trans ((alloc_lt _ m3).trans k3)
    have g4 : h4.ob h.n = _ := (d4.ob _ (by show h.n < h3.n + 1; omega) (by omega)).trans ((alloc_lt _ l3).trans g3)
    have o4 := oA.dn (by omega) d4
    have m4 : h2.n < h4.n := by omega
    simp (maxSteps := 1000000) -implicitDefEqProofs only [push_cast, seval, k3, rd_of k3, rd1_of k3, k4, rd_of k4, rd1_of k4, m3, m4, y3, y4]
    have hl : ((st.vars.map Var.enc).flatten).length = st.vars.length * 2 := flat_len (k := 2) _ (fun _ => rfl)
    have zst := ok_szB ok
    have zl := zst.nv
    refine Gr.app1 (h0 := ⟨h1.n, h4.ob⟩) si48 (by decide) (by decide) (notInt_sl und48) o4.a ⟨by show h1.n ≤ h4.n; omega, fun _ _ => rfl⟩ rfl (by rw [hl]; omega) (by decide) (fun h5 gr ow p' hn' he => ?_)
    rw [hl, Nat.mul_div_cancel _ (by decide : 0 < 2)] at gr ow ⊢
    have n5 : h5.n = h4.n + 2 := hn'
    have k5 : h5.ob h2.n = _ := (he _ m4 (fun e => by have := lo _ (.inl e); omega)).trans k4
    have g5 : h5.ob h.n = _ := (he _ (by omega) (fun e => by have := o4.a.range e; omega)).trans g4
    have m5 : h2.n < h5.n := by omega
    have l5 : h.n < h5.n := by omega
    have lm : h.n < h2.n := by omega
    simp (maxSteps := 1000000) -implicitDefEqProofs only [push_cast, seval, k3, rd_of k3, rd1_of k3, k4, rd_of k4, rd1_of k4, k5, rd_of k5, rd1_of k5, g5, rd_of g5, rd1_of g5, m3, m4, m5, l5, y3, y4, lm]
    have ec : ((addV st nm).vars.map Var.enc).flatten = (st.vars.map Var.enc).flatten ++ [.string nm, .string ⟨#[]⟩] := by
      show ((st.vars ++ [_]).map Var.enc).flatten = _
      rw [flat_snoc]; rfl
    refine ⟨_, rB, addV st nm, rfl, ⟨fun x hx => by
      rcases List.mem_append.1 hx with hx | hx
      · exact zst.vars x hx
      · simp only [List.mem_singleton] at hx; subst hx; exact ⟨by show nm.size ≤ _; omega, by show (0 : Nat) ≤ _; omega⟩, zst.cells, zst.out, by show (st.vars ++ [_]).length ≤ _; rw [storeOk_iff] at ok; have := ok.2.2.2.2.1; simp; omega, zst.nc⟩, ⟨.inr ⟨_, _, _, rfl, by omega, by rw [ec]; exact (ow.same (set_ne _ (by omega)) (Nat.le_refl _)).same (set_ne _ (by omega)) (Nat.le_refl _)⟩, (o4.b.mono (by omega)).keep (by show h4.n ≤ h5.n; omega) (fun i e => ?_), fun i e e2 => ?_⟩, ?_⟩
    · have r1 := o4.b.range e
      have r2 := lo _ (.inr e)
      rw [set_ne _ (by omega), set_ne _ (by omega)]
      exact he i r1.2 (fun e' => o4.ne i e' e)
    · have r1 := o4.b.range e2
      simp only [atBlock] at e
      omega
    · exact (((dbx.alloc hp _).trans d4).to hp (by omega) (fun i a b => he i (by have : h.n ≤ h4.n := by omega
                                                                                 omega) (fun e => by have := o4.a.range e; omega)) (he p (by omega) (fun e => by have := o4.a.range e; omega)) |>.set hp (by omega) _).set hp (Nat.le_refl _) _
  · simp (maxSteps := 1000000) -implicitDefEqProofs only [push_cast, seval]
    with_reducible refine bcase_d (fun hb1 => ?_) (fun hb1 => ?_)
    · simp (maxSteps := 1000000) -implicitDefEqProofs only [push_cast, seval, k3, rd_of k3, rd1_of k3, m3]
      refine WC.draw' (by kernel_rfl) (by kernel_rfl) (.q 0 (.q 1 (.q 2 (.a 3 false (.a 4 false (.q 5 (.a 6 false (.a 7 false (.q 8 (.a 9 true (.done))))))))))) (by kernel_rfl) ?_
      simp (maxSteps := 1000000) -implicitDefEqProofs only [push_cast, seval, k3, rd_of k3, rd1_of k3, m3, y3, y4]
      have dA := dwx.toDn ((Pre.refl h3).alloc (AOb.cells [Value.string ⟨#[97]⟩, Value.string ⟨#[122, 122]⟩, Value.string ⟨#[]⟩] .solo h3.n))
      have oA := o3.alloc (AOb.cells [Value.string ⟨#[97]⟩, Value.string ⟨#[122, 122]⟩, Value.string ⟨#[]⟩] .solo h3.n)
      with_reducible refine CC.txt (l01Pick_c p S l h3.n 3 (fun y => y.size ≤ 2) _ _ (dwx.dn dA) (alloc_same _) (by simp only [strs]; decide) rfl (by omega) (lt_alloc _)) (fun nm h4 qn d4 => ?_)
      have n4 : h3.n + 1 ≤ h4.n := d4.n
      have k4 : h4.ob h2.n = _ := (d4.ob _ (by show h2.n < h3.n + 1; omega) (by omega)).trans ((alloc_lt _ m3).trans k3)
      have g4 : h4.ob h.n = _ := (d4.ob _ (by show h.n < h3.n + 1; omega) (by omega)).trans ((alloc_lt _ l3).trans g3)
      have o4 := oA.dn (by omega) d4
      have m4 : h2.n < h4.n := by omega
      simp (maxSteps := 1000000) -implicitDefEqProofs only [push_cast, seval, k3, rd_of k3, rd1_of k3, k4, rd_of k4, rd1_of k4, m3, m4, y3, y4]
      have hl : ((st.cells.map Cell.enc).flatten).length = st.cells.length * 3 := flat_len (k := 3) _ (fun _ => rfl)
      have zst := ok_szB ok
      have zl := zst.nc
      refine Gr.app1 (h0 := ⟨h1.n, h4.ob⟩) si49 (by decide) (by decide) (notInt_sl und49) o4.b ⟨by show h1.n ≤ h4.n; omega, fun _ _ => rfl⟩ rfl (by rw [hl]; omega) (by decide) (fun h5 gr ow p' hn' he => ?_)
      rw [hl, Nat.mul_div_cancel _ (by decide : 0 < 3)] at gr ow ⊢
      have n5 : h5.n = h4.n + 2 := hn'
      have k5 : h5.ob h2.n = _ := (he _ m4 (fun e => by have := lo _ (.inr e); omega)).trans k4
      have g5 : h5.ob h.n = _ := (he _ (by omega) (fun e => by have := o4.b.range e; omega)).trans g4
      have m5 : h2.n < h5.n := by omega
      have l5 : h.n < h5.n := by omega
      have lm : h.n < h2.n := by omega
      simp (maxSteps := 1000000) -implicitDefEqProofs only [push_cast, seval, k3, rd_of k3, rd1_of k3, k4, rd_of k4, rd1_of k4, k5, rd_of k5, rd1_of k5, g5, rd_of g5, rd1_of g5, m3, m4, m5, l5, y3, y4, lm]
      have ec : ((addC st nm).cells.map Cell.enc).flatten = (st.cells.map Cell.enc).flatten ++ [.string nm, .string ⟨#[]⟩, .string ⟨#[]⟩] := by
        show ((st.cells ++ [_]).map Cell.enc).flatten = _
        rw [flat_snoc]; rfl
      refine ⟨rA, _, addC st nm, rfl, ⟨zst.vars, fun x hx => by
        rcases List.mem_append.1 hx with hx | hx
        · exact zst.cells x hx
        · simp only [List.mem_singleton] at hx; subst hx; exact ⟨by show nm.size ≤ _; omega, by show (0 : Nat) ≤ _; omega, by show (0 : Nat) ≤ _; omega⟩, zst.out, zst.nv, by show (st.cells ++ [_]).length ≤ _; rw [storeOk_iff] at ok; have := ok.2.2.2.2.2.1; simp; omega⟩, ⟨(o4.a.mono (by omega)).keep (by show h4.n ≤ h5.n; omega) (fun i e => ?_), .inr ⟨_, _, _, rfl, by omega, by rw [ec]; exact (ow.same (set_ne _ (by omega)) (Nat.le_refl _)).same (set_ne _ (by omega)) (Nat.le_refl _)⟩, fun i e e2 => ?_⟩, ?_⟩
      · have r1 := o4.a.range e
        have r2 := lo _ (.inl e)
        rw [set_ne _ (by omega), set_ne _ (by omega)]
        exact he i r1.2 (fun e' => o4.ne i e e')
      · have r1 := o4.a.range e
        simp only [atBlock] at e2
        omega
      · exact (((dbx.alloc hp _).trans d4).to hp (by omega) (fun i a b => he i (by have : h.n ≤ h4.n := by omega
                                                                                   omega) (fun e => by have := o4.b.range e; omega)) (he p (by omega) (fun e => by have := o4.b.range e; omega)) |>.set hp (by omega) _).set hp (Nat.le_refl _) _
    · simp (maxSteps := 1000000) -implicitDefEqProofs only [push_cast, seval]
      with_reducible refine bcase_d (fun hb2 => ?_) (fun hb2 => ?_)
      · simp (maxSteps := 1000000) -implicitDefEqProofs only [push_cast, seval]
        with_reducible refine CC.num (l01Below_c p S l _ _ dwx) (fun z h4 q4 d4 => ?_)
        have hz : (z : Int) < 2 := q4.1 (by omega)
        have n4 := d4.n
        have k4 : h4.ob h2.n = _ := (d4.ob _ m3 (by omega)).trans k3
        have g4 : h4.ob h.n = _ := (d4.ob _ l3 (by omega)).trans g3
        have o4 := o3.dn (by omega) d4
        have m4 : h2.n < h4.n := by omega
        have l4 : h.n < h4.n := by omega
        have lm : h.n < h2.n := by omega
        with_reducible refine nameN (3000 + z) (fun Z hZ => ?_)
        have w : IntKind.i64.wrap (3000 + (z : Int)) = (Z : Int) := by rw [hZ, w64 (by omega) (by omega)]; omega
        have hL := l01Long_c Z 65 (by omega) (by omega) h4
        rw [show ((65 : Nat) : Int) = 65 from rfl] at hL
        simp (maxSteps := 1000000) -implicitDefEqProofs only [push_cast, seval, w]
        with_reducible refine CC.mono hL (fun v h5 hv => ?_)
        have eh := hv.2
        have hy := hv.1
        clear hv
        subst eh
        with_reducible refine Exists.elim hy (fun t ht => ?_)
        have e1 := ht.1
        have ts := ht.2
        subst e1
        simp (maxSteps := 1000000) -implicitDefEqProofs only [push_cast, seval, k3, rd_of k3, rd1_of k3, k4, rd_of k4, rd1_of k4, g4, rd_of g4, rd1_of g4, m3, m4, l4, y3, y4, lm]
        have zst := ok_szB ok
        refine ⟨rA, rB, ⟨st.vars, st.cells, t⟩, rfl, ⟨zst.vars, zst.cells, by show t.size ≤ _; omega, zst.nv, zst.nc⟩, ⟨(o4.a.mono (by omega)).keep (Nat.le_refl _) (fun i e => ?_), (o4.b.mono (by omega)).keep (Nat.le_refl _) (fun i e => ?_), o4.ne⟩, ((dbx.trans d4).set hp (by omega) _).set hp (Nat.le_refl _) _⟩
        · have r1 := o4.a.range e
          have r2 := lo _ (.inl e)
          rw [set_ne _ (by omega), set_ne _ (by omega)]
        · have r1 := o4.b.range e
          have r2 := lo _ (.inr e)
          rw [set_ne _ (by omega), set_ne _ (by omega)]
      · simp (maxSteps := 1000000) -implicitDefEqProofs only [push_cast, seval]
        with_reducible refine bcase_d (fun hb3 => ?_) (fun hb3 => ?_)
        · simp (maxSteps := 1000000) -implicitDefEqProofs only [push_cast, seval]
          have hsh := o3.rdt.vars.rde (fun _ => rfl)
          with_reducible refine Exists.elim hsh (fun A0 hsh => ?_)
          with_reducible refine Exists.elim hsh (fun cA0 hsh => ?_)
          have erA := hsh.1
          refine WC.loopA (by kernel_rfl) [] [40, 41, 42, 43, 44, 45, 46, 47, 48, 49, 50, 51, 52, 53, 54, 55, 56, 57, 58, 59, 60, 61, 62, 63, 64, 65, 66, 67] (fun a : Option Addr × Nat × Store => []) (fun a h' => h'.ob h.n = .cells [.slice none 0 0, .slice none 0 0, .string ⟨#[]⟩] .solo h.n ∧ h'.ob h2.n = .cells [.slice a.1 a.2.2.vars.length a.2.1, rB, .string st.out] .solo h2.n ∧ a.2.2.cells = st.cells ∧ a.2.2.out = st.out ∧ SzB a.2.2 ∧ OwnT h1 h' (.slice a.1 a.2.2.vars.length a.2.1) rB a.2.2 ∧ (∀ i, atBlock (.slice a.1 a.2.2.vars.length a.2.1) i ∨ atBlock rB i → i ≠ h2.n) ∧ Dn p S l h h' ∧ h3.n ≤ h'.n) (fun a => 62 - a.2.2.vars.length) (A0, cA0, st) (by kernel_rfl) ⟨g3, by rw [← erA]; exact k3, rfl, rfl, ok_szB ok, by rw [← erA]; exact o3, fun i e => by rw [← erA] at e; have := lo i e; omega, dbx, Nat.le_refl _⟩ ?_
          intro a g h4 hJ
          have g4 := hJ.1
          have k4 := hJ.2.1
          have ec := hJ.2.2.1
          have eo := hJ.2.2.2.1
          have zs := hJ.2.2.2.2.1
          have o4 := hJ.2.2.2.2.2.1
          have ln := hJ.2.2.2.2.2.2.1
          have d4 := hJ.2.2.2.2.2.2.2.1
          have n4 := hJ.2.2.2.2.2.2.2.2
          clear hJ
          have l4 : h.n < h4.n := by omega
          have m4 : h2.n < h4.n := by omega
          have lm : h.n < h2.n := by omega
          have znv := zs.nv
          generalize hnV : a.2.2.vars.length = nV at *
          refine WC.draw' (by kernel_rfl) (by kernel_rfl) (.q 0 (.q 1 (.q 2 (.q 3 (.a 4 false (.q 5 (.q 6 (.done)))))))) (by kernel_rfl) ?_
          simp (maxSteps := 1000000) -implicitDefEqProofs only [push_cast, seval, g4, rd_of g4, rd1_of g4, k4, rd_of k4, rd1_of k4, l4, m4, y4]
          with_reducible refine CC.num (l01Below_c p S l _ _ (d.dn d4)) (fun z h5 q5 d5 => ?_)
          have hz : (z : Int) < 3 := q5.1 (by omega)
          have n5 := d5.n
          have k5 : h5.ob h2.n = _ := (d5.ob _ m4 (by omega)).trans k4
          have g5 : h5.ob h.n = _ := (d5.ob _ l4 (by omega)).trans g4
          have o5 := o4.dn (by omega) d5
          have m5 : h2.n < h5.n := by omega
          have l5 : h.n < h5.n := by omega
          have w : IntKind.i64.wrap (59 + (z : Int)) = 59 + (z : Int) := by rw [w64 (by omega) (by omega)]
          simp (maxSteps := 1000000) -implicitDefEqProofs only [push_cast, seval, k4, rd_of k4, rd1_of k4, k5, rd_of k5, rd1_of k5, w]
          with_reducible refine bcase_d (fun hb4 => ?_) (fun hb4 => ?_)
          · have hv61 : nV ≤ 60 := by omega
            simp (maxSteps := 1000000) -implicitDefEqProofs only [push_cast, seval, k5, rd_of k5, rd1_of k5, m5]
            refine And.intro (by show 2 + 2 < 4611686018427387904; omega) ?_
            have z2 : ∀ x y : UInt8, (ByteArray.mk #[122, 122] ++ ByteArray.mk #[x, y]).size = 4 := fun x y => by rw [ByteArray.size_append]; rfl
            generalize hX : (ByteArray.mk #[122, 122] ++ ByteArray.mk #[UInt8.ofNat (IntKind.u8.wrap (IntKind.i64.wrap (97 + IntKind.i64.wrap ((nV : Int).tdiv 26)))).toNat, UInt8.ofNat (IntKind.u8.wrap (IntKind.i64.wrap (97 + (nV : Int).tmod 26))).toNat]) = nm
            have hnm : nm.size = 4 := by rw [← hX]; exact z2 _ _
            generalize Value.int IntKind.u8 (IntKind.u8.wrap (IntKind.i64.wrap (97 + IntKind.i64.wrap ((nV : Int).tdiv 26)))) = X1
            generalize Value.int IntKind.u8 (IntKind.u8.wrap (IntKind.i64.wrap (97 + (nV : Int).tmod 26))) = X2
            have hl : ((a.2.2.vars.map Var.enc).flatten).length = nV * 2 := by rw [← hnV]; exact flat_len (k := 2) _ (fun _ => rfl)
            have g5' : (h5.alloc (AOb.cells [X1, X2] .solo h5.n)).ob h.n = _ := (alloc_lt _ l5).trans g5
            have k5' : (h5.alloc (AOb.cells [X1, X2] .solo h5.n)).ob h2.n = _ := (alloc_lt _ m5).trans k5
            have o5' := o5.alloc (AOb.cells [X1, X2] .solo h5.n)
            have d5' := (d4.trans d5).alloc hp (AOb.cells [X1, X2] .solo h5.n)
            have n5' : (h5.alloc (AOb.cells [X1, X2] .solo h5.n)).n = h5.n + 1 := rfl
            rw [show h5.n + 1 = (h5.alloc (AOb.cells [X1, X2] .solo h5.n)).n from rfl]
            generalize h5.alloc (AOb.cells [X1, X2] .solo h5.n) = h6 at *
            refine Gr.app1 (h0 := ⟨h1.n, h6.ob⟩) si48 (by decide) (by decide) (notInt_sl und48) o5'.a ⟨by show h1.n ≤ h6.n; omega, fun _ _ => rfl⟩ rfl (by rw [hl]; omega) (by decide) (fun h7 gr ow p' hn' he => ?_)
            rw [hl, Nat.mul_div_cancel _ (by decide : 0 < 2)] at gr ow ⊢
            have n7 : h7.n = h6.n + 2 := hn'
            have k7 : h7.ob h2.n = _ := (he _ (by omega) (fun e => ln _ (.inl e) rfl)).trans k5'
            have g7 : h7.ob h.n = _ := (he _ (by omega) (fun e => by have := o5'.a.range e; omega)).trans g5'
            have m7 : h2.n < h7.n := by omega
            simp (maxSteps := 1000000) -implicitDefEqProofs only [push_cast, seval, k5, rd_of k5, rd1_of k5, k7, rd_of k7, rd1_of k7, m5, m7]
            have ecn : ((addV a.2.2 nm).vars.map Var.enc).flatten = (a.2.2.vars.map Var.enc).flatten ++ [.string nm, .string ⟨#[]⟩] := by
              show ((a.2.2.vars ++ [_]).map Var.enc).flatten = _
              rw [flat_snoc]; rfl
            have evl : (addV a.2.2 nm).vars.length = nV + 1 := by show (a.2.2.vars ++ [_]).length = _; rw [List.length_append, hnV]; rfl
            refine ⟨(some ⟨h6.n + 1, 0, none⟩, 2, addV a.2.2 nm), ⟨(set_ne _ (by omega)).trans g7, by rw [evl], ec, eo, ⟨fun x hx => ?_, zs.cells, zs.out, by rw [evl]; omega, zs.nc⟩, ?_, fun i e => ?_, ?_, by show h3.n ≤ h7.n; omega⟩, by show 62 - (addV a.2.2 nm).vars.length < 62 - nV; rw [evl]; omega⟩
            · rcases List.mem_append.1 hx with hx | hx
              · exact zs.vars x hx
              · simp only [List.mem_singleton] at hx; subst hx; exact ⟨by show nm.size ≤ _; omega, by show (0 : Nat) ≤ _; omega⟩
            · rw [evl]
              refine ⟨.inr ⟨_, _, _, rfl, by omega, by rw [ecn]; exact ow.same (set_ne _ (by omega)) (Nat.le_refl _)⟩, o5'.b.keep (by show h6.n ≤ h7.n; omega) (fun i e => ?_), fun i e e2 => ?_⟩
              · have r1 := o5'.b.range e
                rw [set_ne _ (ln i (.inr e))]
                exact he i r1.2 (fun e' => o5'.ne i e' e)
              · have r1 := o5'.b.range e2
                simp only [atBlock] at e
                omega
            · rcases e with e | e
              · simp only [atBlock] at e
                omega
              · exact ln i (.inr e)
            · exact (d5'.to hp (by omega) (fun i a b => he i (by omega) (fun e => by have := o5'.a.range e; omega)) (he p (by omega) (fun e => by have := o5'.a.range e; omega))).set hp (by omega) _
          · simp (maxSteps := 1000000) -implicitDefEqProofs only [push_cast, seval, g5, rd_of g5, rd1_of g5, k5, rd_of k5, rd1_of k5, l5, m5, lm, y4]
            refine ⟨_, rB, a.2.2, by rw [eo], zs, ⟨(o5.a.mono (by omega)).keep (Nat.le_refl _) (fun i e => ?_), (o5.b.mono (by omega)).keep (Nat.le_refl _) (fun i e => ?_), o5.ne⟩, (d4.trans d5).set hp (Nat.le_refl _) _⟩
            · have r1 := o5.a.range e
              exact set_ne _ (by omega)
            · have r1 := o5.b.range e
              exact set_ne _ (by omega)
        · simp (maxSteps := 1000000) -implicitDefEqProofs only [push_cast, seval, g3, rd_of g3, rd1_of g3, k3, rd_of k3, rd1_of k3, l3, m3, y3, y4]
          have lm : h.n < h2.n := by omega
          have zst := ok_szB ok
          refine ⟨rA, rB, st, rfl, zst, ⟨(o3.a.mono (by omega)).keep (Nat.le_refl _) (fun i e => ?_), (o3.b.mono (by omega)).keep (Nat.le_refl _) (fun i e => ?_), o3.ne⟩, dbx.set hp (Nat.le_refl _) _⟩
          · have r1 := o3.a.range e
            exact set_ne _ (by omega)
          · have r1 := o3.b.range e
            exact set_ne _ (by omega)
end Go.Proofs.Ytfbcedjheempfaa
namespace Go.Proofs.Ytfbcedjheempfaa
open Go Go.Sim Go.Proofs
set_option linter.unusedSimpArgs false
set_option linter.unusedVariables false
set_option maxRecDepth 100000
set_option maxHeartbeats 1000000
theorem Var.dec (a b : Var) : (decide (a.name = b.name) && decide (a.val = b.val)) = decide (a = b) := by
  obtain ⟨a1, a2⟩ := a; obtain ⟨b1, b2⟩ := b
  simp [Var.mk.injEq]
theorem Cell.dec (a b : Cell) : (decide (a.name = b.name) && (decide (a.key = b.key) && decide (a.val = b.val))) = decide (a = b) := by
  obtain ⟨a1, a2, a3⟩ := a; obtain ⟨b1, b2, b3⟩ := b
  simp [Cell.mk.injEq]
theorem equalV_c (l m : List Var) (A B : Option Addr) (ca cb : Nat) (h : AH) (hA : RdE h A 2 Var.enc l) (hB : RdE h B 2 Var.enc m) (hl : l.length < 274877906944) (hm : m.length < 274877906944) :
    CD Try.prog 73 [.slice A l.length ca, .slice B m.length cb] h (.bool (decide (l = m))) h := by
  refine CD.withBig (fun big => ?_)
  refine CD.quiet ?_ (low_bool _ _)
  refine CC.ofN Try.func73 Try.ntmps73 Try.results73 rfl (by decide) (by kernel_rfl) ?_
  simp (maxSteps := 1000000) -implicitDefEqProofs only [push_cast, seval]
  with_reducible refine bcase_d (fun hb => ?_) (fun hb => ?_)
  rotate_left
  · simp (maxSteps := 1000000) -implicitDefEqProofs only [push_cast, seval]
    repeat' (first | with_reducible (first | exact Keep.refl _ _ | assumption | exact byte_lt _ _ | apply Keep.alloc | (refine Keep.set ?_ ?_; rotate_left; · omega) | apply Pre.alloc | apply Pre.set | exact Pre.refl _ | exact le_alloc _ | (refine Pre.keep ?_; assumption) | (refine Pre.n ?_; assumption)) | ((with_reducible (first | refine bcase_d (fun hb => ?_) (fun hb => ?_) | refine bcase_mk (fun hb => ?_) (fun hb => ?_))) <;> try simp (maxSteps := 1000000) -implicitDefEqProofs only [push_cast, seval]) | with_reducible refine And.intro ?_ ?_ | omega | (simp only [alloc_n, set_n, kill_n]; omega) | (exfalso; omega))
    have : l ≠ m := fun e => hb (by rw [e])
    simp [this]
  have hlm : l.length = m.length := by omega
  simp (maxSteps := 1000000) -implicitDefEqProofs only [push_cast, seval]
  refine WC.loopA (by kernel_rfl) [13] [4, 5, 14, 15, 16, 17, 18, 19, 20, 21, 22, 23, 24, 25] (fun a : Nat => [.int .i64 (a : Nat)]) (fun a h' => a ≤ l.length ∧ l.take a = m.take a ∧ Pre h h') (fun a => l.length - a) 0 (by kernel_rfl) ⟨Nat.zero_le _, by simp, Pre.refl _⟩ ?_
  intro a g h1 hJ
  have hi := hJ.1
  have he := hJ.2.1
  have hp := hJ.2.2
  clear hJ
  simp (maxSteps := 1000000) -implicitDefEqProofs only [push_cast, seval]
  with_reducible refine bcase_d (fun hb => ?_) (fun hb => ?_)
  · have hi' : a < l.length := by omega
    have hj' : a < m.length := by omega
    with_reducible refine hA.use big hp hi' (fun id off eA hlt hr => ?_)
    with_reducible refine hB.use big hp hj' (fun id2 off2 eB hlt2 hr2 => ?_)
    subst eA
    subst eB
    simp only [Var.enc] at hr hr2
    simp (maxSteps := 1000000) -implicitDefEqProofs only [push_cast, seval, hr, hlt, hr2, hlt2]
    refine WC.draw' (by kernel_rfl) (by kernel_rfl) (.q 0 (.q 1 (.q 2 (.q 3 (.q 4 (.q 5 (.q 6 (.q 7 (.q 8 (.done)))))))))) (by kernel_rfl) ?_
    simp (maxSteps := 1000000) -implicitDefEqProofs only [push_cast, seval, hr, hlt, hr2, hlt2]
    refine And.intro (by omega) (And.intro (by omega) (And.intro (by omega) (And.intro (by omega) ?_)))
    rw [Var.dec]
    with_reducible refine bcase_d (fun hb2 => ?_) (fun hb2 => ?_)
    · simp (maxSteps := 1000000) -implicitDefEqProofs only [push_cast, seval]
      rw [wrapSucc (by omega)]
      exact ⟨a + 1, by kernel_rfl, ⟨by show a + 1 ≤ l.length; omega, take_next he hi' hj' hb2, hp⟩, by show l.length - (a + 1) < l.length - a; omega⟩
    · simp (maxSteps := 1000000) -implicitDefEqProofs only [push_cast, seval]
      repeat' (first | with_reducible (first | exact Keep.refl _ _ | assumption | exact byte_lt _ _ | apply Keep.alloc | (refine Keep.set ?_ ?_; rotate_left; · omega) | apply Pre.alloc | apply Pre.set | exact Pre.refl _ | exact le_alloc _ | (refine Pre.keep ?_; assumption) | (refine Pre.n ?_; assumption)) | ((with_reducible (first | refine bcase_d (fun hb => ?_) (fun hb => ?_) | refine bcase_mk (fun hb => ?_) (fun hb => ?_))) <;> try simp (maxSteps := 1000000) -implicitDefEqProofs only [push_cast, seval]) | with_reducible refine And.intro ?_ ?_ | omega | (simp only [alloc_n, set_n, kill_n]; omega) | (exfalso; omega))
      have : l ≠ m := fun e => by subst e; exact hb2 rfl
      simp [this]
  · have hn : a = l.length := by omega
    subst hn
    simp (maxSteps := 1000000) -implicitDefEqProofs only [push_cast, seval]
    repeat' (first | with_reducible (first | exact Keep.refl _ _ | assumption | exact byte_lt _ _ | apply Keep.alloc | (refine Keep.set ?_ ?_; rotate_left; · omega) | apply Pre.alloc | apply Pre.set | exact Pre.refl _ | exact le_alloc _ | (refine Pre.keep ?_; assumption) | (refine Pre.n ?_; assumption)) | ((with_reducible (first | refine bcase_d (fun hb => ?_) (fun hb => ?_) | refine bcase_mk (fun hb => ?_) (fun hb => ?_))) <;> try simp (maxSteps := 1000000) -implicitDefEqProofs only [push_cast, seval]) | with_reducible refine And.intro ?_ ?_ | omega | (simp only [alloc_n, set_n, kill_n]; omega) | (exfalso; omega))
    have := take_full he hlm
    simp [this]
theorem equalC_c (l m : List Cell) (A B : Option Addr) (ca cb : Nat) (h : AH) (hA : RdE h A 3 Cell.enc l) (hB : RdE h B 3 Cell.enc m) (hl : l.length < 274877906944) (hm : m.length < 274877906944) :
    CD Try.prog 74 [.slice A l.length ca, .slice B m.length cb] h (.bool (decide (l = m))) h := by
  refine CD.withBig (fun big => ?_)
  refine CD.quiet ?_ (low_bool _ _)
  refine CC.ofN Try.func74 Try.ntmps74 Try.results74 rfl (by decide) (by kernel_rfl) ?_
  simp (maxSteps := 1000000) -implicitDefEqProofs only [push_cast, seval]
  with_reducible refine bcase_d (fun hb => ?_) (fun hb => ?_)
  rotate_left
  · simp (maxSteps := 1000000) -implicitDefEqProofs only [push_cast, seval]
    repeat' (first | with_reducible (first | exact Keep.refl _ _ | assumption | exact byte_lt _ _ | apply Keep.alloc | (refine Keep.set ?_ ?_; rotate_left; · omega) | apply Pre.alloc | apply Pre.set | exact Pre.refl _ | exact le_alloc _ | (refine Pre.keep ?_; assumption) | (refine Pre.n ?_; assumption)) | ((with_reducible (first | refine bcase_d (fun hb => ?_) (fun hb => ?_) | refine bcase_mk (fun hb => ?_) (fun hb => ?_))) <;> try simp (maxSteps := 1000000) -implicitDefEqProofs only [push_cast, seval]) | with_reducible refine And.intro ?_ ?_ | omega | (simp only [alloc_n, set_n, kill_n]; omega) | (exfalso; omega))
    have : l ≠ m := fun e => hb (by rw [e])
    simp [this]
  have hlm : l.length = m.length := by omega
  simp (maxSteps := 1000000) -implicitDefEqProofs only [push_cast, seval]
  refine WC.loopA (by kernel_rfl) [13] [4, 5, 14, 15, 16, 17, 18, 19, 20, 21, 22, 23, 24, 25] (fun a : Nat => [.int .i64 (a : Nat)]) (fun a h' => a ≤ l.length ∧ l.take a = m.take a ∧ Pre h h') (fun a => l.length - a) 0 (by kernel_rfl) ⟨Nat.zero_le _, by simp, Pre.refl _⟩ ?_
  intro a g h1 hJ
  have hi := hJ.1
  have he := hJ.2.1
  have hp := hJ.2.2
  clear hJ
  simp (maxSteps := 1000000) -implicitDefEqProofs only [push_cast, seval]
  with_reducible refine bcase_d (fun hb => ?_) (fun hb => ?_)
  · have hi' : a < l.length := by omega
    have hj' : a < m.length := by omega
    with_reducible refine hA.use big hp hi' (fun id off eA hlt hr => ?_)
    with_reducible refine hB.use big hp hj' (fun id2 off2 eB hlt2 hr2 => ?_)
    subst eA
    subst eB
    simp only [Cell.enc] at hr hr2
    simp (maxSteps := 1000000) -implicitDefEqProofs only [push_cast, seval, hr, hlt, hr2, hlt2]
    refine WC.draw' (by kernel_rfl) (by kernel_rfl) (.q 0 (.q 1 (.q 2 (.q 3 (.q 4 (.q 5 (.q 6 (.q 7 (.q 8 (.done)))))))))) (by kernel_rfl) ?_
    simp (maxSteps := 1000000) -implicitDefEqProofs only [push_cast, seval, hr, hlt, hr2, hlt2]
    refine And.intro (by omega) (And.intro (by omega) (And.intro (by omega) (And.intro (by omega) ?_)))
    rw [Cell.dec]
    with_reducible refine bcase_d (fun hb2 => ?_) (fun hb2 => ?_)
    · simp (maxSteps := 1000000) -implicitDefEqProofs only [push_cast, seval]
      rw [wrapSucc (by omega)]
      exact ⟨a + 1, by kernel_rfl, ⟨by show a + 1 ≤ l.length; omega, take_next he hi' hj' hb2, hp⟩, by show l.length - (a + 1) < l.length - a; omega⟩
    · simp (maxSteps := 1000000) -implicitDefEqProofs only [push_cast, seval]
      repeat' (first | with_reducible (first | exact Keep.refl _ _ | assumption | exact byte_lt _ _ | apply Keep.alloc | (refine Keep.set ?_ ?_; rotate_left; · omega) | apply Pre.alloc | apply Pre.set | exact Pre.refl _ | exact le_alloc _ | (refine Pre.keep ?_; assumption) | (refine Pre.n ?_; assumption)) | ((with_reducible (first | refine bcase_d (fun hb => ?_) (fun hb => ?_) | refine bcase_mk (fun hb => ?_) (fun hb => ?_))) <;> try simp (maxSteps := 1000000) -implicitDefEqProofs only [push_cast, seval]) | with_reducible refine And.intro ?_ ?_ | omega | (simp only [alloc_n, set_n, kill_n]; omega) | (exfalso; omega))
      have : l ≠ m := fun e => by subst e; exact hb2 rfl
      simp [this]
  · have hn : a = l.length := by omega
    subst hn
    simp (maxSteps := 1000000) -implicitDefEqProofs only [push_cast, seval]
    repeat' (first | with_reducible (first | exact Keep.refl _ _ | assumption | exact byte_lt _ _ | apply Keep.alloc | (refine Keep.set ?_ ?_; rotate_left; · omega) | apply Pre.alloc | apply Pre.set | exact Pre.refl _ | exact le_alloc _ | (refine Pre.keep ?_; assumption) | (refine Pre.n ?_; assumption)) | ((with_reducible (first | refine bcase_d (fun hb => ?_) (fun hb => ?_) | refine bcase_mk (fun hb => ?_) (fun hb => ?_))) <;> try simp (maxSteps := 1000000) -implicitDefEqProofs only [push_cast, seval]) | with_reducible refine And.intro ?_ ?_ | omega | (simp only [alloc_n, set_n, kill_n]; omega) | (exfalso; omega))
    have := take_full he hlm
    simp [this]
theorem SameStore_i (s t : Store) (vA vB wA wB : Value) (h : AH) (rs : RdT h vA vB s) (rt : RdT h wA wB t) (zs : Sz s) (zt : Sz t) :
    CD Try.prog 34 [.agg #[vA, vB, .string s.out], .agg #[wA, wB, .string t.out]] h (.bool (decide (s = t))) h := by
  obtain ⟨A, B, ca, cb, rfl, rfl, hs⟩ := rs.rds
  obtain ⟨C, D, cc, cd, rfl, rfl, ht⟩ := rt.rds
  refine CD.withBig (fun big => ?_)
  refine CD.quiet ?_ (low_bool _ _)
  have pb : Pre h ((h.alloc (AOb.cells [Value.slice A s.vars.length ca, Value.slice B s.cells.length cb, Value.string s.out] Stat.solo h.n)).alloc (AOb.cells [Value.slice C t.vars.length cc, Value.slice D t.cells.length cd, Value.string t.out] Stat.solo (h.n + 1))) := ((Pre.refl _).alloc _).alloc _
  have hV := equalV_c s.vars t.vars A C ca cc _ (hs.vars.pre big pb) (ht.vars.pre big pb) zs.nv zt.nv
  have hC := equalC_c s.cells t.cells B D cb cd _ (hs.cells.pre big pb) (ht.cells.pre big pb) zs.nc zt.nc
  refine CC.ofN Try.func34 Try.ntmps34 Try.results34 rfl (by decide) (by kernel_rfl) ?_
  simp (maxSteps := 1000000) -implicitDefEqProofs only [push_cast, seval]
  repeat' (first | with_reducible (first | exact Keep.refl _ _ | assumption | exact byte_lt _ _ | apply Keep.alloc | (refine Keep.set ?_ ?_; rotate_left; · omega) | apply Pre.alloc | apply Pre.set | exact Pre.refl _ | exact le_alloc _ | (refine Pre.keep ?_; assumption) | (refine Pre.n ?_; assumption)) | ((with_reducible (first | refine CD.to (hV) ?_ | refine CQ.pure (fun _ => hV) ?_ | refine CD.to (hC) ?_ | refine CQ.pure (fun _ => hC) ?_ | refine bcase_d (fun hb => ?_) (fun hb => ?_) | refine bcase_mk (fun hb => ?_) (fun hb => ?_))) <;> try simp (maxSteps := 1000000) -implicitDefEqProofs only [push_cast, seval]) | with_reducible refine And.intro ?_ ?_ | omega | (simp only [alloc_n, set_n, kill_n]; omega) | (exfalso; omega))
  all_goals (obtain ⟨a1, a2, a3⟩ := s; obtain ⟨b1, b2, b3⟩ := t; simp_all [Store.mk.injEq])
theorem SameStore_s (s t : Store) (vA vB wA wB : Value) (h : AH) (rs : RdT h vA vB s) (rt : RdT h wA wB t) (zs : Sz s) (zt : Sz t) :
    CD Try.prog 37 [.agg #[vA, vB, .string s.out], .agg #[wA, wB, .string t.out]] h (.bool (decide (s = t))) h := by
  obtain ⟨A, B, ca, cb, rfl, rfl, hs⟩ := rs.rds
  obtain ⟨C, D, cc, cd, rfl, rfl, ht⟩ := rt.rds
  refine CD.withBig (fun big => ?_)
  refine CD.quiet ?_ (low_bool _ _)
  have hA := hs.vars
  have hB := hs.cells
  have hC := ht.vars
  have hD := ht.cells
  have nv := zs.nv
  have nc := zs.nc
  refine CC.ofN Try.func37 Try.ntmps37 Try.results37 rfl (by decide) (by kernel_rfl) ?_
  simp (maxSteps := 1000000) -implicitDefEqProofs only [push_cast, seval]
  with_reducible refine bcase_d (fun hb => ?_) (fun hb => ?_)
  rotate_left
  · simp (maxSteps := 1000000) -implicitDefEqProofs only [push_cast, seval]
    repeat' (first | with_reducible (first | exact Keep.refl _ _ | assumption | exact byte_lt _ _ | apply Keep.alloc | (refine Keep.set ?_ ?_; rotate_left; · omega) | apply Pre.alloc | apply Pre.set | exact Pre.refl _ | exact le_alloc _ | (refine Pre.keep ?_; assumption) | (refine Pre.n ?_; assumption)) | ((with_reducible (first | refine bcase_d (fun hb => ?_) (fun hb => ?_) | refine bcase_mk (fun hb => ?_) (fun hb => ?_))) <;> try simp (maxSteps := 1000000) -implicitDefEqProofs only [push_cast, seval]) | with_reducible refine And.intro ?_ ?_ | omega | (simp only [alloc_n, set_n, kill_n]; omega) | (exfalso; omega))
    have : s ≠ t := fun e => hb (by rw [e])
    simp [this]
  have elv : s.vars.length = t.vars.length := by omega
  simp (maxSteps := 1000000) -implicitDefEqProofs only [push_cast, seval]
  with_reducible refine bcase_d (fun hb => ?_) (fun hb => ?_)
  rotate_left
  · simp (maxSteps := 1000000) -implicitDefEqProofs only [push_cast, seval]
    repeat' (first | with_reducible (first | exact Keep.refl _ _ | assumption | exact byte_lt _ _ | apply Keep.alloc | (refine Keep.set ?_ ?_; rotate_left; · omega) | apply Pre.alloc | apply Pre.set | exact Pre.refl _ | exact le_alloc _ | (refine Pre.keep ?_; assumption) | (refine Pre.n ?_; assumption)) | ((with_reducible (first | refine bcase_d (fun hb => ?_) (fun hb => ?_) | refine bcase_mk (fun hb => ?_) (fun hb => ?_))) <;> try simp (maxSteps := 1000000) -implicitDefEqProofs only [push_cast, seval]) | with_reducible refine And.intro ?_ ?_ | omega | (simp only [alloc_n, set_n, kill_n]; omega) | (exfalso; omega))
    have : s ≠ t := fun e => hb (by rw [e])
    simp [this]
  have elc : s.cells.length = t.cells.length := by omega
  simp (maxSteps := 1000000) -implicitDefEqProofs only [push_cast, seval]
  with_reducible refine bcase_d (fun hb => ?_) (fun hb => ?_)
  rotate_left
  · simp (maxSteps := 1000000) -implicitDefEqProofs only [push_cast, seval]
    repeat' (first | with_reducible (first | exact Keep.refl _ _ | assumption | exact byte_lt _ _ | apply Keep.alloc | (refine Keep.set ?_ ?_; rotate_left; · omega) | apply Pre.alloc | apply Pre.set | exact Pre.refl _ | exact le_alloc _ | (refine Pre.keep ?_; assumption) | (refine Pre.n ?_; assumption)) | ((with_reducible (first | refine bcase_d (fun hb => ?_) (fun hb => ?_) | refine bcase_mk (fun hb => ?_) (fun hb => ?_))) <;> try simp (maxSteps := 1000000) -implicitDefEqProofs only [push_cast, seval]) | with_reducible refine And.intro ?_ ?_ | omega | (simp only [alloc_n, set_n, kill_n]; omega) | (exfalso; omega))
    have : s ≠ t := fun e => hb (by rw [e])
    simp [this]
  have eo : s.out = t.out := hb
  simp (maxSteps := 1000000) -implicitDefEqProofs only [push_cast, seval]
  refine WC.loopA (by kernel_rfl) [5] [4, 30, 31, 32, 33, 34, 35, 36, 37, 38, 39, 40, 41, 42, 43, 44, 45, 46, 47] (fun a : Nat => [.int .i64 (a : Nat)]) (fun a h' => a ≤ s.vars.length ∧ s.vars.take a = t.vars.take a ∧ Pre ((h.alloc (AOb.cells [Value.slice A s.vars.length ca, Value.slice B s.cells.length cb, Value.string s.out] Stat.solo h.n)).alloc (AOb.cells [Value.slice C t.vars.length cc, Value.slice D t.cells.length cd, Value.string t.out] Stat.solo (h.n + 1))) h') (fun a => s.vars.length - a) 0 (by kernel_rfl) ⟨Nat.zero_le _, by simp, Pre.refl _⟩ ?_
  intro a g0 h0 hJ
  have hi := hJ.1
  have he := hJ.2.1
  have hp := hJ.2.2
  clear hJ
  have p0 : Pre h h0 := (((Pre.refl h).alloc _).alloc _).trans hp
  have o0 : h0.ob h.n = _ := (hp.ob _ (by show h.n < h.n + 2; omega)).trans (by (try simp (maxSteps := 1000000) -implicitDefEqProofs only [push_cast, seval, rdOb]); try rfl)
  have q0 : h0.ob (h.n + 1) = _ := (hp.ob _ (by show h.n + 1 < h.n + 2; omega)).trans (by (try simp (maxSteps := 1000000) -implicitDefEqProofs only [push_cast, seval, rdOb]); try rfl)
  have l0 : h.n < h0.n := by have := hp.n; have : h.n + 2 ≤ h0.n := this; omega
  have m0 : h.n + 1 < h0.n := by have := hp.n; have : h.n + 2 ≤ h0.n := this; omega
  simp (maxSteps := 1000000) -implicitDefEqProofs only [push_cast, seval, o0, rd_of o0, rd1_of o0, q0, rd_of q0, rd1_of q0, l0, m0]
  with_reducible refine bcase_d (fun hb => ?_) (fun hb => ?_)
  · have hi' : a < s.vars.length := by omega
    have hj' : a < t.vars.length := by omega
    with_reducible refine hA.use big p0 hi' (fun id off eA hlt hr => ?_)
    with_reducible refine hC.use big p0 hj' (fun id2 off2 eB hlt2 hr2 => ?_)
    subst eA
    subst eB
    simp only [Var.enc] at hr hr2
    simp (maxSteps := 1000000) -implicitDefEqProofs only [push_cast, seval, hr, hlt, hr2, hlt2, o0, rd_of o0, rd1_of o0, q0, rd_of q0, rd1_of q0, l0, m0]
    refine WC.draw' (by kernel_rfl) (by kernel_rfl) (.q 0 (.q 1 (.q 2 (.q 3 (.q 4 (.q 5 (.q 6 (.q 7 (.q 8 (.q 9 (.q 10 (.done)))))))))))) (by kernel_rfl) ?_
    simp (maxSteps := 1000000) -implicitDefEqProofs only [push_cast, seval, hr, hlt, hr2, hlt2, o0, rd_of o0, rd1_of o0, q0, rd_of q0, rd1_of q0, l0, m0]
    refine And.intro (by omega) (And.intro (by omega) (And.intro (by omega) (And.intro (by omega) ?_)))
    rw [Var.dec]
    with_reducible refine bcase_d (fun hb2 => ?_) (fun hb2 => ?_)
    · simp (maxSteps := 1000000) -implicitDefEqProofs only [push_cast, seval]
      rw [wrapSucc (by omega)]
      exact ⟨a + 1, by kernel_rfl, ⟨by show a + 1 ≤ s.vars.length; omega, take_next he hi' hj' hb2, hp⟩, by show s.vars.length - (a + 1) < s.vars.length - a; omega⟩
    · simp (maxSteps := 1000000) -implicitDefEqProofs only [push_cast, seval]
      repeat' (first | with_reducible (first | exact Keep.refl _ _ | assumption | exact byte_lt _ _ | apply Keep.alloc | (refine Keep.set ?_ ?_; rotate_left; · omega) | apply Pre.alloc | apply Pre.set | exact Pre.refl _ | exact le_alloc _ | (refine Pre.keep ?_; assumption) | (refine Pre.n ?_; assumption)) | ((with_reducible (first | refine bcase_d (fun hb => ?_) (fun hb => ?_) | refine bcase_mk (fun hb => ?_) (fun hb => ?_))) <;> try simp (maxSteps := 1000000) -implicitDefEqProofs only [push_cast, seval]) | with_reducible refine And.intro ?_ ?_ | omega | (simp only [alloc_n, set_n, kill_n]; omega) | (exfalso; omega))
      have : s ≠ t := fun e => by subst e; exact hb2 rfl
      simp [this]
  · have ea : a = s.vars.length := by omega
    subst ea
    have ev := take_full he elv
    simp (maxSteps := 1000000) -implicitDefEqProofs only [push_cast, seval, o0, rd_of o0, rd1_of o0, q0, rd_of q0, rd1_of q0, l0, m0]
    refine WC.loopA (by kernel_rfl) [6] [4, 48, 49, 50, 51, 52, 53, 54, 55, 56, 57, 58, 59, 60, 61, 62, 63, 64, 65] (fun a : Nat => [.int .i64 (a : Nat)]) (fun a h' => a ≤ s.cells.length ∧ s.cells.take a = t.cells.take a ∧ Pre (h0) h') (fun a => s.cells.length - a) 0 (by kernel_rfl) ⟨Nat.zero_le _, by simp, Pre.refl _⟩ ?_
    intro a g1 h1 hJ
    have hi := hJ.1
    have he := hJ.2.1
    have hp1 := hJ.2.2
    clear hJ
    have p1 : Pre h h1 := p0.trans hp1
    have o1 : h1.ob h.n = _ := (hp1.ob _ (l0)).trans o0
    have q1 : h1.ob (h.n + 1) = _ := (hp1.ob _ (m0)).trans q0
    have l1 : h.n < h1.n := by have := hp1.n; omega
    have m1 : h.n + 1 < h1.n := by have := hp1.n; omega
    simp (maxSteps := 1000000) -implicitDefEqProofs only [push_cast, seval, o1, rd_of o1, rd1_of o1, q1, rd_of q1, rd1_of q1, l1, m1]
    with_reducible refine bcase_d (fun hb => ?_) (fun hb => ?_)
    · have hi' : a < s.cells.length := by omega
      have hj' : a < t.cells.length := by omega
      with_reducible refine hB.use big p1 hi' (fun id off eA hlt hr => ?_)
      with_reducible refine hD.use big p1 hj' (fun id2 off2 eB hlt2 hr2 => ?_)
      subst eA
      subst eB
      simp only [Cell.enc] at hr hr2
      simp (maxSteps := 1000000) -implicitDefEqProofs only [push_cast, seval, hr, hlt, hr2, hlt2, o1, rd_of o1, rd1_of o1, q1, rd_of q1, rd1_of q1, l1, m1]
      refine WC.draw' (by kernel_rfl) (by kernel_rfl) (.q 0 (.q 1 (.q 2 (.q 3 (.q 4 (.q 5 (.q 6 (.q 7 (.q 8 (.q 9 (.q 10 (.done)))))))))))) (by kernel_rfl) ?_
      simp (maxSteps := 1000000) -implicitDefEqProofs only [push_cast, seval, hr, hlt, hr2, hlt2, o1, rd_of o1, rd1_of o1, q1, rd_of q1, rd1_of q1, l1, m1]
      refine And.intro (by omega) (And.intro (by omega) (And.intro (by omega) (And.intro (by omega) ?_)))
      rw [Cell.dec]
      with_reducible refine bcase_d (fun hb2 => ?_) (fun hb2 => ?_)
      · simp (maxSteps := 1000000) -implicitDefEqProofs only [push_cast, seval]
        rw [wrapSucc (by omega)]
        exact ⟨a + 1, by kernel_rfl, ⟨by show a + 1 ≤ s.cells.length; omega, take_next he hi' hj' hb2, hp1⟩, by show s.cells.length - (a + 1) < s.cells.length - a; omega⟩
      · simp (maxSteps := 1000000) -implicitDefEqProofs only [push_cast, seval]
        repeat' (first | with_reducible (first | exact Keep.refl _ _ | assumption | exact byte_lt _ _ | apply Keep.alloc | (refine Keep.set ?_ ?_; rotate_left; · omega) | apply Pre.alloc | apply Pre.set | exact Pre.refl _ | exact le_alloc _ | (refine Pre.keep ?_; assumption) | (refine Pre.n ?_; assumption)) | ((with_reducible (first | refine bcase_d (fun hb => ?_) (fun hb => ?_) | refine bcase_mk (fun hb => ?_) (fun hb => ?_))) <;> try simp (maxSteps := 1000000) -implicitDefEqProofs only [push_cast, seval]) | with_reducible refine And.intro ?_ ?_ | omega | (simp only [alloc_n, set_n, kill_n]; omega) | (exfalso; omega))
        have : s ≠ t := fun e => by subst e; exact hb2 rfl
        simp [this]
    · have ea : a = s.cells.length := by omega
      subst ea
      have ec := take_full he elc
      simp (maxSteps := 1000000) -implicitDefEqProofs only [push_cast, seval, o1, rd_of o1, rd1_of o1, q1, rd_of q1, rd1_of q1, l1, m1]
      repeat' (first | with_reducible (first | exact Keep.refl _ _ | assumption | exact byte_lt _ _ | apply Keep.alloc | (refine Keep.set ?_ ?_; rotate_left; · omega) | apply Pre.alloc | apply Pre.set | exact Pre.refl _ | exact le_alloc _ | (refine Pre.keep ?_; assumption) | (refine Pre.n ?_; assumption)) | ((with_reducible (first | refine bcase_d (fun hb => ?_) (fun hb => ?_) | refine bcase_mk (fun hb => ?_) (fun hb => ?_))) <;> try simp (maxSteps := 1000000) -implicitDefEqProofs only [push_cast, seval]) | with_reducible refine And.intro ?_ ?_ | omega | (simp only [alloc_n, set_n, kill_n]; omega) | (exfalso; omega))
      have : s = t := by obtain ⟨a1, a2, a3⟩ := s; obtain ⟨b1, b2, b3⟩ := t; simp_all
      simp [this]
end Go.Proofs.Ytfbcedjheempfaa
/- A number or a text that was written is read back. Conditions: those that each theorem names. -/
set_option linter.unusedSimpArgs false
set_option linter.unusedVariables false
namespace Go.Sim
theorem rvGo_back (s : ByteArray) (a n : Nat) (hn : n ≤ 1000000000) : ∀ (m k i acc : Nat), (var m).length ≤ k → acc + m * 128 ^ i = n → (i = 0 ∨ m ≠ 0) → (∀ j (hj : j < (var m).length), a + i + j < s.size ∧ bN s (a + i + j) = (var m)[j]) →
    rvGo s a k i acc = some (n, a + i + (var m).length) := by
  intro m
  induction m using Nat.strongRecOn with
  | ind m ih =>
    intro k i acc hk he h0 hb
    by_cases hm : m ≤ 127
    · have hv : var m = [m] := by rw [var, if_pos hm]
      simp only [hv, List.length_singleton] at hk hb ⊢
      obtain ⟨k', rfl⟩ : ∃ k', k = k' + 1 := ⟨k - 1, by omega⟩
      have h1 := hb 0 (by omega)
      simp only [Nat.add_zero, List.getElem_cons_zero] at h1
      rw [rvGo_succ s a k' i acc h1.1, h1.2, if_neg (by omega), Nat.mod_eq_of_lt (by omega), he, if_neg (by omega)]
    · have hv : var m = (m % 128 + 128) :: var (m / 128) := by rw [var, if_neg hm]
      have hl : (var m).length = (var (m / 128)).length + 1 := by rw [hv]; rfl
      obtain ⟨k', rfl⟩ : ∃ k', k = k' + 1 := ⟨k - 1, by omega⟩
      have h1 := hb 0 (by omega)
      simp only [Nat.add_zero, hv, List.getElem_cons_zero] at h1
      rw [rvGo_succ s a k' i acc h1.1, h1.2, if_pos (by omega)]
      rw [ih (m / 128) (by omega) k' (i + 1) _ (by omega) ?_ (.inr (by omega)) ?_]
      · rw [hl]; congr 2; omega
      · rw [← he, Nat.pow_succ, Nat.add_assoc]
        congr 1
        have e1 : (m % 128 + 128) % 128 = m % 128 := by omega
        have e2 : m / 128 * (128 ^ i * 128) = (128 * (m / 128)) * 128 ^ i := by
          rw [Nat.mul_comm (128 ^ i) 128, ← Nat.mul_assoc, Nat.mul_comm (m / 128) 128]
        rw [e1, e2, ← Nat.add_mul, Nat.mod_add_div]
      · intro j hj
        have h2 := hb (j + 1) (by omega)
        simp only [hv, List.getElem_cons_succ] at h2
        rw [show a + (i + 1) + j = a + i + (j + 1) by omega]
        exact h2
theorem byteAt_mid (p q r : ByteArray) (j : Nat) (hj : j < q.size) : byteAt (p ++ q ++ r) (p.size + j) = byteAt q j := by
  have e1 : (p ++ q ++ r).data = p.data ++ q.data ++ r.data := by simp
  have hq : j < q.data.size := hj
  have hp : p.size = p.data.size := rfl
  unfold byteAt
  rw [e1, hp]
  simp only [Array.getD]
  have : p.data.size + j < (p.data ++ q.data ++ r.data).size := by simp; omega
  rw [dif_pos this, dif_pos hq]
  simp [Array.getElem_append, hj]
theorem mid_extract (p q r : ByteArray) : (p ++ q ++ r).extract p.size (p.size + q.size) = q := by
  have e1 : (p ++ q ++ r).data = p.data ++ q.data ++ r.data := by simp
  have hp : p.size = p.data.size := rfl
  have hq : q.size = q.data.size := rfl
  apply ByteArray.ext
  rw [ByteArray.data_extract, e1]
  apply Array.ext
  · simp only [Array.size_extract, Array.size_append]; omega
  · intro i h1 h2
    rw [Array.getElem_extract, Array.getElem_append_left (by simp only [Array.size_append]; omega), Array.getElem_append_right (by omega)]
    congr 1; omega
theorem vt_len (n : Nat) : (vt (n : Nat)).size = (var n).length := by simp [vt, ByteArray.size]
theorem byteAt_vt (n j : Nat) (hj : j < (var n).length) : bN (vt (n : Nat)) j = (var n)[j] := by
  have hl := vt_len n
  have e := (vt_eq n (vt (n : Nat)) 0 (var n).length (by omega)).1 (by
    rw [Nat.zero_add, ← hl, extract_all]; rfl)
  have h1 : (var n)[j]? = (bl (vt (n : Nat)) 0 (var n).length)[j]? := by rw [← e]
  rw [List.getElem?_eq_getElem hj] at h1
  simp only [bl, List.getElem?_map, List.getElem?_range hj, Option.map_some, Option.some.injEq, Nat.zero_add] at h1
  exact h1.symm
theorem rv_back (p q : ByteArray) (n : Nat) (hn : n ≤ 1000000000) : rv (p ++ vt (n : Nat) ++ q) (p.size : Nat) = some (n, p.size + (vt (n : Nat)).size) := by
  have h5 := vt_size (n := (n : Int)) (by omega)
  rw [vt_len] at h5 ⊢
  have hz : (p ++ vt (n : Nat) ++ q).size = p.size + (var n).length + q.size := by rw [ByteArray.size_append, ByteArray.size_append, vt_len]
  unfold rv
  rw [if_pos (by simp [inB, hz]; omega), Int.toNat_natCast]
  rw [rvGo_back _ _ n hn n 5 0 0 (by omega) (by simp) (.inl rfl) (fun j hj => ?_)]
  · rfl
  · refine ⟨by rw [hz]; omega, ?_⟩
    rw [bN, Nat.add_zero, byteAt_mid _ _ _ _ (by rw [vt_len]; exact hj), ← bN, byteAt_vt n j hj]
theorem rs_back (p t q : ByteArray) (ht : t.size ≤ 20000) : rs (p ++ short t ++ q) (p.size : Nat) = some (t.size, p.size + (vt (t.size : Nat)).size) ∧ sT (p ++ short t ++ q) (some (t.size, p.size + (vt (t.size : Nat)).size)) = t := by
  have e : p ++ short t ++ q = p ++ vt (t.size : Nat) ++ (t ++ q) := by rw [short, app_assoc, app_assoc]
  have hz : (p ++ short t ++ q).size = p.size + (vt (t.size : Nat)).size + t.size + q.size := by rw [e]; simp only [ByteArray.size_append]; omega
  constructor
  · unfold rs
    rw [show rv (p ++ short t ++ q) (p.size : Nat) = some (t.size, p.size + (vt (t.size : Nat)).size) from by rw [e]; exact rv_back p (t ++ q) t.size (by omega)]
    simp only
    rw [if_neg (by rw [hz]; omega)]
  · simp only [sT]
    rw [e, show p ++ vt (t.size : Nat) ++ (t ++ q) = (p ++ vt (t.size : Nat)) ++ t ++ q from by rw [app_assoc], ← ByteArray.size_append]
    exact mid_extract _ _ _
theorem foldl_cat : ∀ (l : List ByteArray) (a : ByteArray), l.foldl (· ++ ·) a = a ++ cat l
  | [], a => by simp [cat, app_empty]
  | x :: r, a => by
    have e : cat (x :: r) = r.foldl (· ++ ·) (⟨#[]⟩ ++ x) := rfl
    rw [List.foldl_cons, foldl_cat r (a ++ x), e, foldl_cat r (⟨#[]⟩ ++ x)]
    have : (⟨#[]⟩ : ByteArray) ++ x = x := by
      have h0 : (⟨#[]⟩ : ByteArray) = ByteArray.empty := rfl
      rw [h0]; simp
    rw [this, app_assoc]
theorem cat_app (a b : List ByteArray) : cat (a ++ b) = cat a ++ cat b := by
  show (a ++ b).foldl (· ++ ·) ⟨#[]⟩ = _
  rw [List.foldl_append, foldl_cat b]
  rfl
theorem cat_split {α : Type} (f : α → ByteArray) {l : List α} {i : Nat} (hi : i < l.length) : cat (l.map f) = cat ((l.take i).map f) ++ f l[i] ++ cat ((l.drop (i + 1)).map f) := by
  rw [← cat_snoc, ← cat_app]
  have e : l.map f = (l.take i).map f ++ [f l[i]] ++ (l.drop (i + 1)).map f := by
    rw [show l.map f = ((l.take i) ++ (l.drop i)).map f from by rw [List.take_append_drop], List.drop_eq_getElem_cons hi]
    simp only [List.map_append, List.map_cons, List.append_assoc, List.singleton_append]
  rw [← e]
end Go.Sim
namespace Go.Proofs.Ytfbcedjheempfaa
open Go Go.Sim Go.Proofs
set_option linter.unusedSimpArgs false
set_option linter.unusedVariables false
/-! A store comes back from its text. -/
theorem sh_at (p t q : ByteArray) (ht : t.size ≤ 20000) : shT (p ++ short t ++ q) (p.size, false) = t ∧ shN (p ++ short t ++ q) (p.size, false) = ((p ++ short t).size, false) := by
  have h := rs_back p t q ht
  have e : (p ++ short t).size = p.size + (vt (t.size : Nat)).size + t.size := by rw [ByteArray.size_append, short, ByteArray.size_append]; omega
  constructor
  · simp only [shT, Bool.false_eq_true, if_false, h.1]; exact h.2
  · simp only [shN, Bool.false_eq_true, if_false, h.1, nxT, Option.isNone_some, e]
theorem ct_at (p q : ByteArray) (n most : Nat) (hn : n ≤ most) (hm : most ≤ 1000000000) : ctM (p ++ vt (n : Nat) ++ q) most (p.size, false) = n ∧ ctN (p ++ vt (n : Nat) ++ q) most (p.size, false) = ((p ++ vt (n : Nat)).size, false) := by
  have h := rv_back p q n (by omega)
  constructor
  · simp only [ctM, ctV, Bool.false_eq_true, if_false, h, oN]
    rw [if_neg (by omega), Int.toNat_natCast]
  · simp only [ctN, Bool.false_eq_true, if_false, h, oN, nxN, Option.isNone_some, Bool.false_or, ByteArray.size_append]
    rw [decide_eq_false (by omega)]
theorem itV_at (p q : ByteArray) (l : List Var) (hl : ∀ x ∈ l, x.name.size ≤ 20000 ∧ x.val.size ≤ 20000) : ∀ i, i ≤ l.length → itV (p ++ cat (l.map Var.txt) ++ q) (p.size, false) i = (((p ++ cat ((l.take i).map Var.txt)).size, false), l.take i)
  | 0, _ => by simp [itV, cat, app_empty]
  | i + 1, hi => by
    have hi' : i < l.length := by omega
    have ih := itV_at p q l hl i (by omega)
    have hs := cat_split Var.txt hi'
    have hz := hl _ (List.getElem_mem hi')
    generalize hA : p ++ cat ((l.take i).map Var.txt) = A at ih
    generalize hB : cat ((l.drop (i + 1)).map Var.txt) ++ q = B
    have e1 : p ++ cat (l.map Var.txt) ++ q = A ++ short l[i].name ++ (short l[i].val ++ B) := by
      rw [hs, ← hA, ← hB, Var.txt]; simp only [app_assoc]
    have e2 : p ++ cat (l.map Var.txt) ++ q = (A ++ short l[i].name) ++ short l[i].val ++ B := by rw [e1, app_assoc]
    have r1 := sh_at A l[i].name (short l[i].val ++ B) hz.1
    have r2 := sh_at (A ++ short l[i].name) l[i].val B hz.2
    rw [← e1] at r1
    rw [← e2] at r2
    rw [itV, ih]
    simp only
    rw [r1.1, r1.2, r2.1, r2.2, List.take_add_one, List.getElem?_eq_getElem hi']
    simp only [Option.toList_some, List.map_append, List.map_cons, List.map_nil, cat_snoc, Var.txt, app_assoc, hA]
theorem itC_at (p q : ByteArray) (l : List Cell) (hl : ∀ x ∈ l, x.name.size ≤ 20000 ∧ x.key.size ≤ 20000 ∧ x.val.size ≤ 20000) : ∀ i, i ≤ l.length → itC (p ++ cat (l.map Cell.txt) ++ q) (p.size, false) i = (((p ++ cat ((l.take i).map Cell.txt)).size, false), l.take i)
  | 0, _ => by simp [itC, cat, app_empty]
  | i + 1, hi => by
    have hi' : i < l.length := by omega
    have ih := itC_at p q l hl i (by omega)
    have hs := cat_split Cell.txt hi'
    have hz := hl _ (List.getElem_mem hi')
    generalize hA : p ++ cat ((l.take i).map Cell.txt) = A at ih
    generalize hB : cat ((l.drop (i + 1)).map Cell.txt) ++ q = B
    have e1 : p ++ cat (l.map Cell.txt) ++ q = A ++ short l[i].name ++ (short l[i].key ++ short l[i].val ++ B) := by
      rw [hs, ← hA, ← hB, Cell.txt]; simp only [app_assoc]
    have e2 : p ++ cat (l.map Cell.txt) ++ q = (A ++ short l[i].name) ++ short l[i].key ++ (short l[i].val ++ B) := by rw [e1]; simp only [app_assoc]
    have e3 : p ++ cat (l.map Cell.txt) ++ q = (A ++ short l[i].name ++ short l[i].key) ++ short l[i].val ++ B := by rw [e1]; simp only [app_assoc]
    have r1 := sh_at A l[i].name (short l[i].key ++ short l[i].val ++ B) hz.1
    have r2 := sh_at (A ++ short l[i].name) l[i].key (short l[i].val ++ B) hz.2.1
    have r3 := sh_at (A ++ short l[i].name ++ short l[i].key) l[i].val B hz.2.2
    rw [← e1] at r1
    rw [← e2] at r2
    rw [← e3] at r3
    rw [itC, ih]
    simp only
    rw [r1.1, r1.2, r2.1, r2.2, r3.1, r3.2, List.take_add_one, List.getElem?_eq_getElem hi']
    simp only [Option.toList_some, List.map_append, List.map_cons, List.map_nil, cat_snoc, Cell.txt, app_assoc, hA]
theorem read_back {s : Store} (h : storeOk s = true) : iOk (storeT s) = true ∧ iStore (storeT s) = s := by
  have ho := h
  rw [storeOk_iff] at h
  obtain ⟨h1, h2, h3, h4, h5, h6, h7⟩ := h
  have ls : ∀ y, letters y = true → y.size ≤ 8 := fun y hy => by
    simp only [letters, inB, Bool.and_eq_true, decide_eq_true_eq] at hy
    omega
  have zv : ∀ x ∈ s.vars, x.name.size ≤ 20000 ∧ x.val.size ≤ 20000 := fun x hx => by have := h1 x hx; have := ls _ this.1; omega
  have zc : ∀ x ∈ s.cells, x.name.size ≤ 20000 ∧ x.key.size ≤ 20000 ∧ x.val.size ≤ 20000 := fun x hx => by have := h3 x hx; have := ls _ this.1; omega
  generalize hT : storeT s = T
  have e0 : T = vt (s.vars.length : Nat) ++ cat (s.vars.map Var.txt) ++ vt (s.cells.length : Nat) ++ cat (s.cells.map Cell.txt) ++ short s.out := by rw [← hT, storeT, varsT_all, cellsT_all]
  have em : ∀ x : ByteArray, (⟨#[]⟩ : ByteArray) ++ x = x := fun x => by
    have h0 : (⟨#[]⟩ : ByteArray) = ByteArray.empty := rfl
    rw [h0]; simp
  have c1 := ct_at ⟨#[]⟩ (cat (s.vars.map Var.txt) ++ vt (s.cells.length : Nat) ++ cat (s.cells.map Cell.txt) ++ short s.out) s.vars.length 60 h5 (by omega)
  rw [em, show vt (s.vars.length : Nat) ++ (cat (s.vars.map Var.txt) ++ vt (s.cells.length : Nat) ++ cat (s.cells.map Cell.txt) ++ short s.out) = T from by rw [e0]; simp only [app_assoc]] at c1
  have v1 := itV_at (vt (s.vars.length : Nat)) (vt (s.cells.length : Nat) ++ cat (s.cells.map Cell.txt) ++ short s.out) s.vars zv s.vars.length (Nat.le_refl _)
  rw [show vt (s.vars.length : Nat) ++ cat (s.vars.map Var.txt) ++ (vt (s.cells.length : Nat) ++ cat (s.cells.map Cell.txt) ++ short s.out) = T from by rw [e0]; simp only [app_assoc], List.take_length] at v1
  have eL : iL T = (((vt (s.vars.length : Nat) ++ cat (s.vars.map Var.txt)).size, false), s.vars) := by
    rw [iL]
    have a1 : ctN T 60 (0, false) = ((vt (s.vars.length : Nat)).size, false) := c1.2
    have a2 : ctM T 60 (0, false) = s.vars.length := c1.1
    rw [a1, a2, v1]
  have c2 := ct_at (vt (s.vars.length : Nat) ++ cat (s.vars.map Var.txt)) (cat (s.cells.map Cell.txt) ++ short s.out) s.cells.length 2000 h6 (by omega)
  rw [show vt (s.vars.length : Nat) ++ cat (s.vars.map Var.txt) ++ vt (s.cells.length : Nat) ++ (cat (s.cells.map Cell.txt) ++ short s.out) = T from by rw [e0]; simp only [app_assoc]] at c2
  have w1 := itC_at (vt (s.vars.length : Nat) ++ cat (s.vars.map Var.txt) ++ vt (s.cells.length : Nat)) (short s.out) s.cells zc s.cells.length (Nat.le_refl _)
  rw [show vt (s.vars.length : Nat) ++ cat (s.vars.map Var.txt) ++ vt (s.cells.length : Nat) ++ cat (s.cells.map Cell.txt) ++ short s.out = T from e0.symm, List.take_length] at w1
  have eC : iC T = (((vt (s.vars.length : Nat) ++ cat (s.vars.map Var.txt) ++ vt (s.cells.length : Nat) ++ cat (s.cells.map Cell.txt)).size, false), s.cells) := by
    rw [iC, eL]
    simp only
    have a1 := c2.2
    have a2 := c2.1
    rw [show ((2000 : Nat) : Int) = 2000 from rfl] at a1 a2
    rw [a1, a2, w1]
  have t1 := sh_at (vt (s.vars.length : Nat) ++ cat (s.vars.map Var.txt) ++ vt (s.cells.length : Nat) ++ cat (s.cells.map Cell.txt)) s.out ⟨#[]⟩ (by omega)
  rw [app_empty, ← e0] at t1
  have eS : iStore T = s := by rw [iStore, eL, eC]; simp only; rw [t1.1]
  refine ⟨?_, eS⟩
  rw [iOk, eS, eC]
  simp only
  rw [t1.2, ho]
  simp
theorem storeT_inj {a b : Store} (ha : storeOk a = true) (hb : storeOk b = true) (e : storeT a = storeT b) : a = b := by
  rw [← (read_back ha).2, ← (read_back hb).2, e]
end Go.Proofs.Ytfbcedjheempfaa
namespace Go.Proofs.Ytfbcedjheempfaa
open Go Go.Sim Go.Proofs
set_option linter.unusedSimpArgs false
set_option linter.unusedVariables false
set_option maxRecDepth 100000
set_option maxHeartbeats 1000000
def byV (n : Nat) : List Value := [.int .u8 (n : Nat)]
theorem byte_wf {n : Int} (h : (Lit.int .u8 n).wf = true) : 0 ≤ n ∧ n < 256 := by
  have e1 : IntKind.u8.min = 0 := by decide
  have e2 : IntKind.u8.max = 255 := by decide
  simp [Lit.wf, e1, e2] at h
  omega
theorem big_c (A : Option Addr) (n c : Nat) (h : AH) : CD Try.prog 16 [.slice A n c] h (.bool (decide ((1048576 : Int) < n))) h := by
  refine CD.quiet ?_ (low_bool _ _)
  refine CC.ofN Try.func16 Try.ntmps16 Try.results16 rfl (by decide) (by kernel_rfl) ?_
  simp (maxSteps := 1000000) -implicitDefEqProofs only [push_cast, seval]
  repeat' (first | with_reducible (first | exact Keep.refl _ _ | assumption | exact byte_lt _ _ | apply Keep.alloc | (refine Keep.set ?_ ?_; rotate_left; · omega) | apply Pre.alloc | apply Pre.set | exact Pre.refl _ | exact le_alloc _ | (refine Pre.keep ?_; assumption) | (refine Pre.n ?_; assumption)) | ((with_reducible (first | refine bcase_d (fun hb => ?_) (fun hb => ?_) | refine bcase_mk (fun hb => ?_) (fun hb => ?_))) <;> try simp (maxSteps := 1000000) -implicitDefEqProofs only [push_cast, seval]) | with_reducible refine And.intro ?_ ?_ | omega | (simp only [alloc_n, set_n, kill_n]; omega) | (exfalso; omega))
theorem l01New_c (A : Option Addr) (c : Nat) (l : List Nat) (h : AH) (hR : RdE h A 1 byV l) (big : Big h) (hl : ∀ n ∈ l, n < 256) (hn : l.length ≤ 1048576) :
    CC Try.prog 53 [.slice A l.length c] h (fun v h' => v = .pointer (some ⟨h.n, 0, none⟩) ∧ Dw h.n (.slice A l.length c) l h' ∧ Pre h h') := by
  refine CC.ofN Try.func53 Try.ntmps53 Try.results53 rfl (by decide) (by kernel_rfl) ?_
  simp (maxSteps := 1000000) -implicitDefEqProofs only [push_cast, seval]
  refine WC.loopA (by kernel_rfl) [3, 4] [8, 9, 10, 11, 12, 13, 14, 15, 16, 17, 18, 19, 20, 21, 22, 23, 24, 25, 26, 27] (fun a : Nat × Int => [.int .i64 a.2, .int .i64 (a.1 : Nat)]) (fun a h' => a.1 ≤ l.length ∧ h' = h) (fun a => l.length - a.1) (0, IntKind.i64.wrap (38001 + (l.length : Int))) (by kernel_rfl) ⟨Nat.zero_le _, rfl⟩ ?_
  intro a g h1 hJ
  have hi := hJ.1
  have hh := hJ.2
  clear hJ
  subst hh
  have fin : ∀ x : Int, Dw h1.n (.slice A l.length c) l (h1.alloc (.cells [.slice A l.length c, .int .i64 0, .int .i64 x] .solo h1.n)) := fun x =>
    ⟨⟨⟨A, c, rfl, fun i hi => by
      obtain ⟨id, off, e, hr⟩ := hR i hi
      have hlt := big.lt hr
      exact ⟨id, off, e, Nat.lt_of_lt_of_le hlt (le_alloc _), by omega, by rw [rd_alloc_lt _ hlt]; exact hr⟩⟩, hl, hn⟩, ⟨0, x, alloc_same _, Nat.zero_le _⟩, lt_alloc _⟩
  simp (maxSteps := 1000000) -implicitDefEqProofs only [push_cast, seval]
  with_reducible refine bcase_d (fun hb => ?_) (fun hb => ?_)
  · simp (maxSteps := 1000000) -implicitDefEqProofs only [push_cast, seval]
    with_reducible refine bcase_d (fun hb2 => ?_) (fun hb2 => ?_)
    · have hi' : a.1 < l.length := by omega
      with_reducible refine hR.use big (Pre.refl _) hi' (fun id off eA hlt hr => ?_)
      subst eA
      simp only [byV] at hr
      have r0 := rd_1 hr
      simp (maxSteps := 1000000) -implicitDefEqProofs only [push_cast, seval, hr, r0, hlt]
      refine And.intro (by omega) (And.intro (by omega) ?_)
      rw [wrapSucc (by omega)]
      refine ⟨(a.1 + 1, IntKind.i64.wrap (BitVec.ofInt IntKind.i64.bits (IntKind.i64.wrap (IntKind.i64.wrap (IntKind.i64.wrap (a.2 * 131) + IntKind.i64.wrap (l[a.1] : Nat)) + 7)) &&& BitVec.ofInt IntKind.i64.bits 1073741823).toNat), by kernel_rfl, by show a.1 + 1 ≤ l.length; omega, by show l.length - (a.1 + 1) < l.length - a.1; omega⟩
    · simp (maxSteps := 1000000) -implicitDefEqProofs only [push_cast, seval]
      exact ⟨fin _, (Pre.refl _).alloc _⟩
  · simp (maxSteps := 1000000) -implicitDefEqProofs only [push_cast, seval]
    exact ⟨fin _, (Pre.refl _).alloc _⟩
theorem DrawStoreOk_c (A : Option Addr) (c : Nat) (l : List Nat) (h : AH) (hR : RdE h A 1 byV l) (hl : ∀ n ∈ l, n < 256) (hn : l.length ≤ 1048576) :
    CC Try.prog 35 [.slice A l.length c] h (fun v h' => ∃ vA vB st, v = .agg #[vA, vB, .string st.out] ∧ SzB st ∧ OwnT h h' vA vB st ∧ Pre h h') := by
  refine CC.withBig (fun big => ?_)
  refine CC.ofN Try.func35 Try.ntmps35 Try.results35 rfl (by decide) (by kernel_rfl) ?_
  simp (maxSteps := 1000000) -implicitDefEqProofs only [push_cast, seval]
  have p0 := (Pre.refl h).alloc (AOb.cells [.slice none 0 0, .slice none 0 0, .string ⟨#[]⟩] .solo h.n)
  with_reducible refine CC.mono (l01New_c A c l _ (hR.pre big p0) (big.alloc _) hl hn) (fun v h1 hv => ?_)
  have e1 := hv.1
  have d1 : Dw (h.n + 1) (.slice A l.length c) l h1 := hv.2.1
  have p1 := hv.2.2
  clear hv
  subst e1
  have hn1 := p1.n
  simp (maxSteps := 1000000) -implicitDefEqProofs only [push_cast, seval]
  with_reducible refine CC.mono (l08Any_c _ _ _ _ d1) (fun v h2 hv => ?_)
  with_reducible refine Exists.elim hv (fun vA hv => ?_)
  with_reducible refine Exists.elim hv (fun vB hv => ?_)
  with_reducible refine Exists.elim hv (fun st hv => ?_)
  have e1 := hv.1
  have zs := hv.2.1
  have o2 := hv.2.2.1
  have d2 := hv.2.2.2
  clear hv
  subst e1
  have y1 := o2.one.1
  have y2 := o2.one.2
  have hn2 := d2.n
  have hn1' : h.n + 1 ≤ h1.n := hn1
  have hd := d1.lt
  have f2 : h2.ob h.n = _ := (d2.ob h.n (by omega) (by show h.n ≠ h.n + 1; omega)).trans ((p1.ob _ (Nat.lt_succ_self _)).trans (alloc_same _))
  have l2 : h.n < h2.n := by omega
  have q2 : Pre h h2 := ⟨by omega, fun i hi => (d2.ob i (by omega) (by show i ≠ h.n + 1; omega)).trans ((p0.trans p1).ob i hi)⟩
  simp (maxSteps := 1000000) -implicitDefEqProofs only [push_cast, seval, y1, y2, f2, rd_of f2, rd1_of f2, l2]
  refine ⟨vA, vB, st, rfl, zs, (o2.mono (by omega)).to (Nat.le_refl _) (fun i e => ?_), q2.set (Nat.le_refl _) _⟩
  have := o2.range e
  exact set_ne _ (by omega)
end Go.Proofs.Ytfbcedjheempfaa
namespace Go.Proofs.Ytfbcedjheempfaa
open Go Go.Sim Go.Proofs
set_option linter.unusedSimpArgs false
set_option linter.unusedVariables false
set_option maxRecDepth 100000
set_option maxHeartbeats 1000000
theorem OwnT.out {h0 h : AH} {vA vB : Value} {st : Store} (o : OwnT h0 h vA vB st) (u : ByteArray) : OwnT h0 h vA vB ⟨st.vars, st.cells, u⟩ := ⟨o.a, o.b, o.ne⟩
theorem DrawSameStore_c (A : Option Addr) (c : Nat) (l : List Nat) (h : AH) (hR : RdE h A 1 byV l) (hl : ∀ n ∈ l, n < 256) (hn : l.length ≤ 1048576) :
    CC Try.prog 33 [.slice A l.length c] h (fun v h' => ∃ vA vB wA wB s t, v = .tuple #[.agg #[vA, vB, .string s.out], .agg #[wA, wB, .string t.out]] ∧ SzB s ∧ Sz t ∧ OwnT h h' vA vB s ∧ OwnT h h' wA wB t ∧ Pre h h') := by
  refine CC.withBig (fun big => ?_)
  refine CC.ofN Try.func33 Try.ntmps33 Try.results33 rfl (by decide) (by kernel_rfl) ?_
  simp (maxSteps := 1000000) -implicitDefEqProofs only [push_cast, seval]
  have p0 := ((Pre.refl h).alloc (AOb.cells [.slice none 0 0, .slice none 0 0, .string ⟨#[]⟩] .solo h.n)).alloc (AOb.cells [.slice none 0 0, .slice none 0 0, .string ⟨#[]⟩] .solo (h.n + 1))
  with_reducible refine CC.mono (l01New_c A c l _ (hR.pre big p0) ((big.alloc _).alloc _) hl hn) (fun v h1 hv => ?_)
  have e1 := hv.1
  have d1 : Dw (h.n + 2) (.slice A l.length c) l h1 := hv.2.1
  have p1 := p0.trans hv.2.2
  have p1' := hv.2.2
  clear hv
  subst e1
  have n1 : h.n + 3 ≤ h1.n := d1.lt
  have f0 : h1.ob h.n = AOb.cells [.slice none 0 0, .slice none 0 0, .string ⟨#[]⟩] .solo h.n := (p1'.ob _ (by show h.n < h.n + 2; omega)).trans (by (try simp (maxSteps := 1000000) -implicitDefEqProofs only [push_cast, seval, rdOb]); try rfl)
  have f1 : h1.ob (h.n + 1) = AOb.cells [.slice none 0 0, .slice none 0 0, .string ⟨#[]⟩] .solo (h.n + 1) := (p1'.ob _ (by show h.n + 1 < h.n + 2; omega)).trans (by (try simp (maxSteps := 1000000) -implicitDefEqProofs only [push_cast, seval, rdOb]); try rfl)
  clear p1'
  simp (maxSteps := 1000000) -implicitDefEqProofs only [push_cast, seval]
  with_reducible refine CC.num (l01Below_c _ _ _ _ _ d1) (fun k h2 q2 d2 => ?_)
  have hk : (k : Int) < 4 := q2.1 (by omega)
  have n2 := d2.n
  simp (maxSteps := 1000000) -implicitDefEqProofs only [push_cast, seval]
  with_reducible refine CC.mono (l08Any_c _ _ _ _ (d1.dn d2)) (fun v h3 hv => ?_)
  with_reducible refine Exists.elim hv (fun vA hv => ?_)
  with_reducible refine Exists.elim hv (fun vB hv => ?_)
  with_reducible refine Exists.elim hv (fun s hv => ?_)
  have e1 := hv.1
  have zs := hv.2.1
  have o3 := hv.2.2.1
  have d3 := hv.2.2.2
  clear hv
  subst e1
  have y1 := o3.one.1
  have y2 := o3.one.2
  have n3 := d3.n
  simp (maxSteps := 1000000) -implicitDefEqProofs only [push_cast, seval, y1, y2]
  have pa : Pre h3 ((h3.alloc (AOb.cells [.slice none 0 0, .slice none 0 0, .string ⟨#[]⟩] .solo h3.n)).set h3.n (AOb.cells [vA, vB, .string s.out] .solo h3.n)) := ((Pre.refl h3).alloc _).set (Nat.le_refl _) _
  with_reducible refine CC.mono (l08Copy_c s vA vB _ (o3.pre pa).rdt zs.sz) (fun v h4 hv => ?_)
  with_reducible refine Exists.elim hv (fun wA hv => ?_)
  with_reducible refine Exists.elim hv (fun wB hv => ?_)
  have e1 := hv.1
  have o4 := hv.2.1
  have p4 := hv.2.2
  clear hv
  subst e1
  have y3 := o4.one.1
  have y4 := o4.one.2
  have n4 : h3.n + 1 ≤ h4.n := p4.n
  simp (maxSteps := 1000000) -implicitDefEqProofs only [push_cast, seval, y3, y4]
  have pb : Pre h4 ((h4.alloc (AOb.cells [.slice none 0 0, .slice none 0 0, .string ⟨#[]⟩] .solo h4.n)).set h4.n (AOb.cells [wA, wB, .string s.out] .solo h4.n)) := ((Pre.refl h4).alloc _).set (Nat.le_refl _) _
  -- the heap then: H
  have dH : Dn (h.n + 2) (.slice A l.length c) l h1 _ := (((d2.trans d3).pre (by omega) pa).pre (by omega) p4).pre (by omega) pb
  have kS : ((h4.alloc (AOb.cells [.slice none 0 0, .slice none 0 0, .string ⟨#[]⟩] .solo h4.n)).set h4.n (AOb.cells [wA, wB, .string s.out] .solo h4.n)).ob h3.n = AOb.cells [vA, vB, .string s.out] .solo h3.n := (pb.ob _ (by omega)).trans ((p4.ob _ (Nat.lt_succ_self _)).trans (set_same _ _))
  have kT : ((h4.alloc (AOb.cells [.slice none 0 0, .slice none 0 0, .string ⟨#[]⟩] .solo h4.n)).set h4.n (AOb.cells [wA, wB, .string s.out] .solo h4.n)).ob h4.n = AOb.cells [wA, wB, .string s.out] .solo h4.n := set_same _ _
  have oS := (o3.pre pa).pre (p4.trans pb)
  have oW := o4.pre pb
  have nH : ((h4.alloc (AOb.cells [.slice none 0 0, .slice none 0 0, .string ⟨#[]⟩] .solo h4.n)).set h4.n (AOb.cells [wA, wB, .string s.out] .solo h4.n)).n = h4.n + 1 := rfl
  have oSr : ∀ i, (atBlock vA i ∨ atBlock vB i) → h2.n ≤ i ∧ i < h3.n := fun i e => o3.range e
  have oWr : ∀ i, (atBlock wA i ∨ atBlock wB i) → h3.n + 1 ≤ i ∧ i < h4.n := fun i e => o4.range e
  clear o3 o4 pa pb p4
  generalize (h4.alloc (AOb.cells [.slice none 0 0, .slice none 0 0, .string ⟨#[]⟩] .solo h4.n)).set h4.n (AOb.cells [wA, wB, .string s.out] .solo h4.n) = H at *
  have g0 : H.ob h.n = _ := (dH.ob h.n (by omega) (by omega)).trans f0
  have g1 : H.ob (h.n + 1) = _ := (dH.ob (h.n + 1) (by omega) (by omega)).trans f1
  have dW := d1.dn dH
  have z1 : h.n < h3.n := by omega
  have z2 : h.n < h4.n := by omega
  have z3 : h.n + 1 < h3.n := by omega
  have z4 : h.n + 1 < h4.n := by omega
  have pH : ∀ i, i < h.n → H.ob i = h.ob i := fun i hi => (dH.ob i (by omega) (by omega)).trans (p1.ob i hi)
  simp (maxSteps := 1000000) -implicitDefEqProofs only [push_cast, seval]
  with_reducible refine bcase_d (fun hb => ?_) (fun hb => ?_)
  · simp (maxSteps := 1000000) -implicitDefEqProofs only [push_cast, seval]
    with_reducible refine CC.mono (l08Any_c _ _ _ _ dW) (fun v h5 hv => ?_)
    with_reducible refine Exists.elim hv (fun xA hv => ?_)
    with_reducible refine Exists.elim hv (fun xB hv => ?_)
    with_reducible refine Exists.elim hv (fun t hv => ?_)
    have e1 := hv.1
    have zt := hv.2.1.sz
    have oX' := hv.2.2.1
    have d5 := hv.2.2.2
    clear hv
    subst e1
    have y5 := oX'.one.1
    have y6 := oX'.one.2
    have n5 := d5.n
    have oXr : ∀ i, (atBlock xA i ∨ atBlock xB i) → H.n ≤ i ∧ i < h5.n := fun i e => oX'.range e
    have kT5 : h5.ob h4.n = _ := (d5.ob _ (by omega) (by omega)).trans kT
    have lT5 : h4.n < h5.n := by omega
    simp (maxSteps := 1000000) -implicitDefEqProofs only [push_cast, seval, kT5, rd_of kT5, rd1_of kT5, lT5, y5, y6]
    have kS' : (h5.set h4.n (AOb.cells [xA, xB, .string t.out] .solo h4.n)).ob h3.n = _ := (set_ne _ (by omega)).trans ((d5.ob _ (by omega) (by omega)).trans kS)
    have kT' : (h5.set h4.n (AOb.cells [xA, xB, .string t.out] .solo h4.n)).ob h4.n = _ := set_same _ _
    have g0' : (h5.set h4.n (AOb.cells [xA, xB, .string t.out] .solo h4.n)).ob h.n = _ := (set_ne _ (by omega)).trans ((d5.ob _ (by omega) (by omega)).trans g0)
    have g1' : (h5.set h4.n (AOb.cells [xA, xB, .string t.out] .solo h4.n)).ob (h.n + 1) = _ := (set_ne _ (by omega)).trans ((d5.ob _ (by omega) (by omega)).trans g1)
    have oS' : OwnT _ (h5.set h4.n (AOb.cells [xA, xB, .string t.out] .solo h4.n)) vA vB s := oS.to (by show H.n ≤ h5.n; omega) (fun i e => by have := oSr i e; rw [set_ne _ (by omega)]; exact d5.ob _ (by omega) (by omega))
    have oX : OwnT _ (h5.set h4.n (AOb.cells [xA, xB, .string t.out] .solo h4.n)) xA xB t := oX'.to (Nat.le_refl _) (fun i e => by have := oXr i e; exact set_ne _ (by omega))
    have pf : ∀ i, i < h.n → (h5.set h4.n (AOb.cells [xA, xB, .string t.out] .solo h4.n)).ob i = h.ob i := fun i hi => (set_ne _ (by omega)).trans ((d5.ob _ (by omega) (by omega)).trans (pH i hi))
    have nK : (h5.set h4.n (AOb.cells [xA, xB, .string t.out] .solo h4.n)).n = h5.n := rfl
    generalize h5.set h4.n (AOb.cells [xA, xB, .string t.out] .solo h4.n) = K at *
    have lS : h3.n < K.n := by omega
    have lT : h4.n < K.n := by omega
    have l0 : h.n < K.n := by omega
    have l1 : h.n + 1 < K.n := by omega
    refine WC.draw' (by kernel_rfl) (by kernel_rfl) (.q 0 (.q 1 (.a 2 false (.a 3 true (.done))))) (by kernel_rfl) ?_
    simp (maxSteps := 1000000) -implicitDefEqProofs only [push_cast, seval, kS', rd_of kS', rd1_of kS', kT', rd_of kT', rd1_of kT', g0', rd_of g0', rd1_of g0', g1', rd_of g1', rd1_of g1', lS, lT, l0, l1, y1, y2, y3, y4, y5, y6, z1, z2, z3, z4]
    refine ⟨vA, vB, xA, xB, s, t, rfl, zs, zt, (oS'.mono (by omega)).to (Nat.le_refl _) (fun i e => ?_), (oX.mono (by omega)).to (Nat.le_refl _) (fun i e => ?_), ⟨by show h.n ≤ K.n; omega, fun i hi => ?_⟩⟩
    · have := oSr i e
      rw [set_ne _ (by omega), set_ne _ (by omega)]
    · have := oXr i e
      rw [set_ne _ (by omega), set_ne _ (by omega)]
    · rw [set_ne _ (by omega), set_ne _ (by omega)]
      exact pf i hi
  · simp (maxSteps := 1000000) -implicitDefEqProofs only [push_cast, seval]
    with_reducible refine bcase_d (fun hb1 => ?_) (fun hb1 => ?_)
    · have lTH : h4.n < H.n := by omega
      simp (maxSteps := 1000000) -implicitDefEqProofs only [push_cast, seval, kT, rd_of kT, rd1_of kT, lTH]
      have zo := zs.out
      have x1 : (ByteArray.mk #[120]).size = 1 := rfl
      refine And.intro (by rw [x1]; omega) ?_
      have kS' : (H.set h4.n (AOb.cells [wA, wB, .string (s.out ++ ⟨#[120]⟩)] .solo h4.n)).ob h3.n = _ := (set_ne _ (by omega)).trans kS
      have kT' : (H.set h4.n (AOb.cells [wA, wB, .string (s.out ++ ⟨#[120]⟩)] .solo h4.n)).ob h4.n = _ := set_same _ _
      have g0' : (H.set h4.n (AOb.cells [wA, wB, .string (s.out ++ ⟨#[120]⟩)] .solo h4.n)).ob h.n = _ := (set_ne _ (by omega)).trans g0
      have g1' : (H.set h4.n (AOb.cells [wA, wB, .string (s.out ++ ⟨#[120]⟩)] .solo h4.n)).ob (h.n + 1) = _ := (set_ne _ (by omega)).trans g1
      have oS' : OwnT _ (H.set h4.n (AOb.cells [wA, wB, .string (s.out ++ ⟨#[120]⟩)] .solo h4.n)) vA vB s := oS.to (Nat.le_refl _) (fun i e => by have := oSr i e; exact set_ne _ (by omega))
      have oX : OwnT _ (H.set h4.n (AOb.cells [wA, wB, .string (s.out ++ ⟨#[120]⟩)] .solo h4.n)) wA wB ⟨s.vars, s.cells, s.out ++ ⟨#[120]⟩⟩ := (oW.out _).to (Nat.le_refl _) (fun i e => by have := oWr i e; exact set_ne _ (by omega))
      have pf : ∀ i, i < h.n → (H.set h4.n (AOb.cells [wA, wB, .string (s.out ++ ⟨#[120]⟩)] .solo h4.n)).ob i = h.ob i := fun i hi => (set_ne _ (by omega)).trans (pH i hi)
      have zt : Sz ⟨s.vars, s.cells, s.out ++ ⟨#[120]⟩⟩ := ⟨zs.sz.vars, zs.sz.cells, by show (s.out ++ _).size ≤ _; rw [ByteArray.size_append, x1, maxLen_eq]; omega, zs.sz.nv, zs.sz.nc⟩
      have nK : (H.set h4.n (AOb.cells [wA, wB, .string (s.out ++ ⟨#[120]⟩)] .solo h4.n)).n = H.n := rfl
      generalize H.set h4.n (AOb.cells [wA, wB, .string (s.out ++ ⟨#[120]⟩)] .solo h4.n) = K at *
      have lS : h3.n < K.n := by omega
      have lT : h4.n < K.n := by omega
      have l0 : h.n < K.n := by omega
      have l1 : h.n + 1 < K.n := by omega
      refine WC.draw' (by kernel_rfl) (by kernel_rfl) (.q 0 (.q 1 (.a 2 false (.a 3 true (.done))))) (by kernel_rfl) ?_
      simp (maxSteps := 1000000) -implicitDefEqProofs only [push_cast, seval, kS', rd_of kS', rd1_of kS', kT', rd_of kT', rd1_of kT', g0', rd_of g0', rd1_of g0', g1', rd_of g1', rd1_of g1', lS, lT, l0, l1, y1, y2, y3, y4, y3, y4, z1, z2, z3, z4]
      refine ⟨vA, vB, wA, wB, s, ⟨s.vars, s.cells, s.out ++ ⟨#[120]⟩⟩, rfl, zs, zt, (oS'.mono (by omega)).to (Nat.le_refl _) (fun i e => ?_), ?_, ⟨by show h.n ≤ K.n; omega, fun i hi => ?_⟩⟩
      · have := oSr i e
        rw [set_ne _ (by omega), set_ne _ (by omega)]
      · refine (oX.mono (by show h.n ≤ h3.n + 1; omega)).to (Nat.le_refl _) (fun i e => ?_)
        have := oWr i e
        rw [set_ne _ (by omega), set_ne _ (by omega)]
      · rw [set_ne _ (by omega), set_ne _ (by omega)]
        exact pf i hi
    · simp (maxSteps := 1000000) -implicitDefEqProofs only [push_cast, seval]
      with_reducible refine bcase_d (fun hb2 => ?_) (fun hb2 => ?_)
      · have lTH : h4.n < H.n := by omega
        simp (maxSteps := 1000000) -implicitDefEqProofs only [push_cast, seval, kT, rd_of kT, rd1_of kT, lTH]
        with_reducible refine CC.mono (SetVar_s s ⟨#[110]⟩ ⟨#[111, 116, 104, 101, 114]⟩ wA wB _ oW.rdt zs (by decide) (by decide)) (fun v h5 hv => ?_)
        with_reducible refine Exists.elim hv (fun xA hv => ?_)
        with_reducible refine Exists.elim hv (fun xB hv => ?_)
        have e1 := hv.1
        have oX' := hv.2.1
        have p5 := hv.2.2
        clear hv
        subst e1
        have y5 := oX'.one.1
        have y6 := oX'.one.2
        have n5 := p5.n
        have zt : Sz (setV s ⟨#[110]⟩ ⟨#[111, 116, 104, 101, 114]⟩) := (zs.setV (by decide)).sz
        generalize setV s ⟨#[110]⟩ ⟨#[111, 116, 104, 101, 114]⟩ = t at *
        have oXr : ∀ i, (atBlock xA i ∨ atBlock xB i) → H.n ≤ i ∧ i < h5.n := fun i e => oX'.range e
        have kT5 : h5.ob h4.n = _ := (p5.ob _ (by omega)).trans kT
        have lT5 : h4.n < h5.n := by omega
        simp (maxSteps := 1000000) -implicitDefEqProofs only [push_cast, seval, kT5, rd_of kT5, rd1_of kT5, lT5, y5, y6]
        have kS' : (h5.set h4.n (AOb.cells [xA, xB, .string t.out] .solo h4.n)).ob h3.n = _ := (set_ne _ (by omega)).trans ((p5.ob _ (by omega)).trans kS)
        have kT' : (h5.set h4.n (AOb.cells [xA, xB, .string t.out] .solo h4.n)).ob h4.n = _ := set_same _ _
        have g0' : (h5.set h4.n (AOb.cells [xA, xB, .string t.out] .solo h4.n)).ob h.n = _ := (set_ne _ (by omega)).trans ((p5.ob _ (by omega)).trans g0)
        have g1' : (h5.set h4.n (AOb.cells [xA, xB, .string t.out] .solo h4.n)).ob (h.n + 1) = _ := (set_ne _ (by omega)).trans ((p5.ob _ (by omega)).trans g1)
        have oS' : OwnT _ (h5.set h4.n (AOb.cells [xA, xB, .string t.out] .solo h4.n)) vA vB s := oS.to (by show H.n ≤ h5.n; omega) (fun i e => by have := oSr i e; rw [set_ne _ (by omega)]; exact p5.ob _ (by omega))
        have oX : OwnT _ (h5.set h4.n (AOb.cells [xA, xB, .string t.out] .solo h4.n)) xA xB t := oX'.to (Nat.le_refl _) (fun i e => by have := oXr i e; exact set_ne _ (by omega))
        have pf : ∀ i, i < h.n → (h5.set h4.n (AOb.cells [xA, xB, .string t.out] .solo h4.n)).ob i = h.ob i := fun i hi => (set_ne _ (by omega)).trans ((p5.ob _ (by omega)).trans (pH i hi))
        have nK : (h5.set h4.n (AOb.cells [xA, xB, .string t.out] .solo h4.n)).n = h5.n := rfl
        generalize h5.set h4.n (AOb.cells [xA, xB, .string t.out] .solo h4.n) = K at *
        have lS : h3.n < K.n := by omega
        have lT : h4.n < K.n := by omega
        have l0 : h.n < K.n := by omega
        have l1 : h.n + 1 < K.n := by omega
        refine WC.draw' (by kernel_rfl) (by kernel_rfl) (.q 0 (.q 1 (.a 2 false (.a 3 true (.done))))) (by kernel_rfl) ?_
        simp (maxSteps := 1000000) -implicitDefEqProofs only [push_cast, seval, kS', rd_of kS', rd1_of kS', kT', rd_of kT', rd1_of kT', g0', rd_of g0', rd1_of g0', g1', rd_of g1', rd1_of g1', lS, lT, l0, l1, y1, y2, y3, y4, y5, y6, z1, z2, z3, z4]
        refine ⟨vA, vB, xA, xB, s, t, rfl, zs, zt, (oS'.mono (by omega)).to (Nat.le_refl _) (fun i e => ?_), (oX.mono (by omega)).to (Nat.le_refl _) (fun i e => ?_), ⟨by show h.n ≤ K.n; omega, fun i hi => ?_⟩⟩
        · have := oSr i e
          rw [set_ne _ (by omega), set_ne _ (by omega)]
        · have := oXr i e
          rw [set_ne _ (by omega), set_ne _ (by omega)]
        · rw [set_ne _ (by omega), set_ne _ (by omega)]
          exact pf i hi
      · simp (maxSteps := 1000000) -implicitDefEqProofs only [push_cast, seval]
        have kS' := kS
        have kT' := kT
        have g0' := g0
        have g1' := g1
        have oS' := oS
        have pf := pH
        have lS : h3.n < H.n := by omega
        have lT : h4.n < H.n := by omega
        have l0 : h.n < H.n := by omega
        have l1 : h.n + 1 < H.n := by omega
        refine WC.draw' (by kernel_rfl) (by kernel_rfl) (.q 0 (.q 1 (.a 2 false (.a 3 true (.done))))) (by kernel_rfl) ?_
        simp (maxSteps := 1000000) -implicitDefEqProofs only [push_cast, seval, kS', rd_of kS', rd1_of kS', kT', rd_of kT', rd1_of kT', g0', rd_of g0', rd1_of g0', g1', rd_of g1', rd1_of g1', lS, lT, l0, l1, y1, y2, y3, y4, y3, y4, z1, z2, z3, z4]
        refine ⟨vA, vB, wA, wB, s, s, rfl, zs, zs.sz, (oS'.mono (by omega)).to (Nat.le_refl _) (fun i e => ?_), (oW.mono (by show h.n ≤ h3.n + 1; omega)).to (Nat.le_refl _) (fun i e => ?_), ⟨by show h.n ≤ H.n; omega, fun i hi => ?_⟩⟩
        · have := oSr i e
          rw [set_ne _ (by omega), set_ne _ (by omega)]
        · have := oWr i e
          rw [set_ne _ (by omega), set_ne _ (by omega)]
        · rw [set_ne _ (by omega), set_ne _ (by omega)]
          exact pf i hi
end Go.Proofs.Ytfbcedjheempfaa
namespace Go.Proofs.Ytfbcedjheempfaa
open Go Go.Sim Go.Proofs
set_option linter.unusedSimpArgs false
set_option linter.unusedVariables false
set_option maxRecDepth 100000
set_option maxHeartbeats 1000000
theorem StoreOk_i_t (s : Store) (vA vB : Value) (h : AH) (r : RdT h vA vB s) (zs : Sz s) : CD Try.prog 38 [.agg #[vA, vB, .string s.out]] h (.bool (storeOk s)) h := by
  obtain ⟨A, B, ca, cb, rfl, rfl, hs⟩ := r.rds
  exact StoreOk_i s A B ca cb h hs zs
theorem StoreOk_s_t (s : Store) (vA vB : Value) (h : AH) (r : RdT h vA vB s) (zs : Sz s) : CD Try.prog 39 [.agg #[vA, vB, .string s.out]] h (.bool (storeOk s)) h := by
  obtain ⟨A, B, ca, cb, rfl, rfl, hs⟩ := r.rds
  exact StoreOk_s s A B ca cb h hs zs
theorem StoreText_s_t (s : Store) (vA vB : Value) (h : AH) (r : RdT h vA vB s) (zs : Sz s) : CD Try.prog 36 [.agg #[vA, vB, .string s.out]] h (.tuple #[.string (if storeOk s = true then storeT s else ⟨#[]⟩), .bool (storeOk s)]) h := by
  obtain ⟨A, B, ca, cb, rfl, rfl, hs⟩ := r.rds
  exact StoreText_s s A B ca cb h hs zs
theorem StoreText_i_t (s : Store) (vA vB : Value) (h : AH) (r : RdT h vA vB s) (zs : Sz s) : CD Try.prog 42 [.agg #[vA, vB, .string s.out]] h (.tuple #[.string (if storeOk s = true then storeT s else ⟨#[]⟩), .bool (storeOk s)]) h := by
  obtain ⟨A, B, ca, cb, rfl, rfl, hs⟩ := r.rds
  exact StoreText_i s A B ca cb h hs zs
theorem law_StoresSame (A : Option Addr) (c : Nat) (l : List Nat) (h : AH) (hR : RdE h A 1 byV l) (hl : ∀ n ∈ l, n < 256) (hn : l.length ≤ maxLen) : CE Try.prog 8 [.slice A l.length c] h fun v _ => v = .bool true := by
  refine CE.withBig (fun big => ?_)
  have hm := maxLen_eq
  refine CE.ofN Try.func8 Try.ntmps8 Try.results8 rfl (by kernel_rfl) ?_
  simp (maxSteps := 1000000) -implicitDefEqProofs only [push_cast, seval]
  repeat' (first | with_reducible (first | exact Keep.refl _ _ | assumption | exact byte_lt _ _ | apply Keep.alloc | (refine Keep.set ?_ ?_; rotate_left; · omega) | apply Pre.alloc | apply Pre.set | exact Pre.refl _ | exact le_alloc _ | (refine Pre.keep ?_; assumption) | (refine Pre.n ?_; assumption)) | ((with_reducible (first | refine CD.to (big_c _ _ _ _) ?_ | refine CQ.pure (fun _ => big_c _ _ _ _) ?_ | refine bcase_d (fun hb => ?_) (fun hb => ?_) | refine bcase_mk (fun hb => ?_) (fun hb => ?_))) <;> try simp (maxSteps := 1000000) -implicitDefEqProofs only [push_cast, seval]) | with_reducible refine And.intro ?_ ?_ | omega | (simp only [alloc_n, set_n, kill_n]; omega) | (exfalso; omega))
  have hn' : l.length ≤ 1048576 := by omega
  with_reducible refine CC.mono (DrawSameStore_c A c l _ hR hl hn') (fun v h1 hv => ?_)
  with_reducible refine Exists.elim hv (fun vA hv => ?_)
  with_reducible refine Exists.elim hv (fun vB hv => ?_)
  with_reducible refine Exists.elim hv (fun wA hv => ?_)
  with_reducible refine Exists.elim hv (fun wB hv => ?_)
  with_reducible refine Exists.elim hv (fun s hv => ?_)
  with_reducible refine Exists.elim hv (fun t hv => ?_)
  have e1 := hv.1
  have zs := hv.2.1.sz
  have zt := hv.2.2.1
  have oS := hv.2.2.2.1
  have oT := hv.2.2.2.2.1
  have p1 := hv.2.2.2.2.2
  clear hv
  subst e1
  have y1 := oS.one.1
  have y2 := oS.one.2
  have y3 := oT.one.1
  have y4 := oT.one.2
  simp (maxSteps := 1000000) -implicitDefEqProofs only [push_cast, seval, y1, y2, y3, y4]
  have pa : Pre h1 ((((h1.alloc (AOb.cells [.slice none 0 0, .slice none 0 0, .string ⟨#[]⟩] .solo h1.n)).alloc (AOb.cells [.slice none 0 0, .slice none 0 0, .string ⟨#[]⟩] .solo (h1.n + 1))).set h1.n (AOb.cells [vA, vB, .string s.out] .solo h1.n)).set (h1.n + 1) (AOb.cells [wA, wB, .string t.out] .solo (h1.n + 1))) := ((((Pre.refl h1).alloc _).alloc _).set (Nat.le_refl _) _).set (by omega) _
  have kS : ((((h1.alloc (AOb.cells [.slice none 0 0, .slice none 0 0, .string ⟨#[]⟩] .solo h1.n)).alloc (AOb.cells [.slice none 0 0, .slice none 0 0, .string ⟨#[]⟩] .solo (h1.n + 1))).set h1.n (AOb.cells [vA, vB, .string s.out] .solo h1.n)).set (h1.n + 1) (AOb.cells [wA, wB, .string t.out] .solo (h1.n + 1))).ob h1.n = AOb.cells [vA, vB, .string s.out] .solo h1.n := (set_ne _ (by omega)).trans (set_same _ _)
  have kT : ((((h1.alloc (AOb.cells [.slice none 0 0, .slice none 0 0, .string ⟨#[]⟩] .solo h1.n)).alloc (AOb.cells [.slice none 0 0, .slice none 0 0, .string ⟨#[]⟩] .solo (h1.n + 1))).set h1.n (AOb.cells [vA, vB, .string s.out] .solo h1.n)).set (h1.n + 1) (AOb.cells [wA, wB, .string t.out] .solo (h1.n + 1))).ob (h1.n + 1) = AOb.cells [wA, wB, .string t.out] .solo (h1.n + 1) := set_same _ _
  have nH : ((((h1.alloc (AOb.cells [.slice none 0 0, .slice none 0 0, .string ⟨#[]⟩] .solo h1.n)).alloc (AOb.cells [.slice none 0 0, .slice none 0 0, .string ⟨#[]⟩] .solo (h1.n + 1))).set h1.n (AOb.cells [vA, vB, .string s.out] .solo h1.n)).set (h1.n + 1) (AOb.cells [wA, wB, .string t.out] .solo (h1.n + 1))).n = h1.n + 2 := rfl
  have rS := (oS.pre pa).rdt
  have rT := (oT.pre pa).rdt
  have pH := p1.trans pa
  generalize (((h1.alloc (AOb.cells [.slice none 0 0, .slice none 0 0, .string ⟨#[]⟩] .solo h1.n)).alloc (AOb.cells [.slice none 0 0, .slice none 0 0, .string ⟨#[]⟩] .solo (h1.n + 1))).set h1.n (AOb.cells [vA, vB, .string s.out] .solo h1.n)).set (h1.n + 1) (AOb.cells [wA, wB, .string t.out] .solo (h1.n + 1)) = H at *
  with_reducible refine CD.to (SameStore_i s t vA vB wA wB H rS rT zs zt) ?_
  simp (maxSteps := 1000000) -implicitDefEqProofs only [push_cast, seval]
  with_reducible refine CC.mono (DrawStoreOk_c A c l _ (hR.pre big pH) hl hn') (fun v h2 hv => ?_)
  with_reducible refine Exists.elim hv (fun xA hv => ?_)
  with_reducible refine Exists.elim hv (fun xB hv => ?_)
  with_reducible refine Exists.elim hv (fun x hv => ?_)
  have e1 := hv.1
  have zx := hv.2.1.sz
  have oX := hv.2.2.1
  have p2 := hv.2.2.2
  clear hv
  subst e1
  have y5 := oX.one.1
  have y6 := oX.one.2
  simp (maxSteps := 1000000) -implicitDefEqProofs only [push_cast, seval, y5, y6]
  have pb : Pre h2 ((h2.alloc (AOb.cells [.slice none 0 0, .slice none 0 0, .string ⟨#[]⟩] .solo h2.n)).set h2.n (AOb.cells [xA, xB, .string x.out] .solo h2.n)) := ((Pre.refl h2).alloc _).set (Nat.le_refl _) _
  have kX : ((h2.alloc (AOb.cells [.slice none 0 0, .slice none 0 0, .string ⟨#[]⟩] .solo h2.n)).set h2.n (AOb.cells [xA, xB, .string x.out] .solo h2.n)).ob h2.n = AOb.cells [xA, xB, .string x.out] .solo h2.n := set_same _ _
  have nK : ((h2.alloc (AOb.cells [.slice none 0 0, .slice none 0 0, .string ⟨#[]⟩] .solo h2.n)).set h2.n (AOb.cells [xA, xB, .string x.out] .solo h2.n)).n = h2.n + 1 := rfl
  have n2 := p2.n
  have kS2 := ((p2.trans pb).ob _ (by omega)).trans kS
  have kT2 := ((p2.trans pb).ob _ (by omega)).trans kT
  have rS2 := rS.pre (p2.trans pb)
  have rT2 := rT.pre (p2.trans pb)
  have rX2 := (oX.pre pb).rdt
  generalize (h2.alloc (AOb.cells [.slice none 0 0, .slice none 0 0, .string ⟨#[]⟩] .solo h2.n)).set h2.n (AOb.cells [xA, xB, .string x.out] .solo h2.n) = K at *
  have lS : h1.n < K.n := by omega
  have lT : h1.n + 1 < K.n := by omega
  have lX : h2.n < K.n := by omega
  simp (maxSteps := 1000000) -implicitDefEqProofs only [push_cast, seval, kS2, rd_of kS2, rd1_of kS2, kT2, rd_of kT2, rd1_of kT2, lS, lT]
  with_reducible refine CD.to (StoreText_s_t s vA vB K rS2 zs) ?_
  simp (maxSteps := 1000000) -implicitDefEqProofs only [push_cast, seval, kS2, rd_of kS2, rd1_of kS2, kT2, rd_of kT2, rd1_of kT2, lS, lT]
  with_reducible refine CD.to (StoreText_s_t t wA wB K rT2 zt) ?_
  simp (maxSteps := 1000000) -implicitDefEqProofs only [push_cast, seval, kS2, rd_of kS2, rd1_of kS2, kT2, rd_of kT2, rd1_of kT2, lS, lT]
  refine WC.draw' (by kernel_rfl) (by kernel_rfl) (.q 0 (.q 1 (.q 2 (.a 3 false (.q 4 (.q 5 (.q 6 (.q 7 (.a 8 false (.q 9 (.q 10 (.q 11 (.q 12 (.q 13 (.a 14 false (.q 15 (.q 16 (.q 17 (.q 18 (.q 20 (.a 19 false (.a 21 false (.q 22 (.q 23 (.q 24 (.q 25 (.q 26 (.q 27 (.q 28 (.q 29 (.q 30 (.q 31 (.q 32 (.q 33 (.q 34 (.q 35 (.q 36 (.q 37 (.q 38 (.q 39 (.done))))))))))))))))))))))))))))))))))))))))) (by kernel_rfl) ?_
  have sym : decide (t = s) = decide (s = t) := decide_eq_decide.2 ⟨fun e => e.symm, fun e => e.symm⟩
  have c1 := SameStore_s s t vA vB wA wB K rS2 rT2 zs zt
  have c2 := SameStore_i s s vA vB vA vB K rS2 rS2 zs zs
  have c3 := SameStore_i t s wA wB vA vB K rT2 rS2 zt zs
  rw [sym] at c3
  rw [decide_eq_true (rfl : s = s)] at c2
  have c4 := StoreOk_i_t x xA xB K rX2 zx
  have c5 := StoreOk_s_t x xA xB K rX2 zx
  simp (maxSteps := 1000000) -implicitDefEqProofs only [push_cast, seval, kS2, rd_of kS2, rd1_of kS2, kT2, rd_of kT2, rd1_of kT2, kX, rd_of kX, rd1_of kX, lS, lT, lX]
  with_reducible refine CD.to c1 ?_
  simp (maxSteps := 1000000) -implicitDefEqProofs only [push_cast, seval, kS2, rd_of kS2, rd1_of kS2, kT2, rd_of kT2, rd1_of kT2, kX, rd_of kX, rd1_of kX, lS, lT, lX, beq_self_eq_true]
  with_reducible refine CD.to c2 ?_
  simp (maxSteps := 1000000) -implicitDefEqProofs only [push_cast, seval, kS2, rd_of kS2, rd1_of kS2, kT2, rd_of kT2, rd1_of kT2, kX, rd_of kX, rd1_of kX, lS, lT, lX, beq_self_eq_true]
  with_reducible refine CD.to c3 ?_
  simp (maxSteps := 1000000) -implicitDefEqProofs only [push_cast, seval, kS2, rd_of kS2, rd1_of kS2, kT2, rd_of kT2, rd1_of kT2, kX, rd_of kX, rd1_of kX, lS, lT, lX, beq_self_eq_true]
  with_reducible refine CD.to c4 ?_
  simp (maxSteps := 1000000) -implicitDefEqProofs only [push_cast, seval, kS2, rd_of kS2, rd1_of kS2, kT2, rd_of kT2, rd1_of kT2, kX, rd_of kX, rd1_of kX, lS, lT, lX, beq_self_eq_true]
  with_reducible refine CD.to c5 ?_
  simp (maxSteps := 1000000) -implicitDefEqProofs only [push_cast, seval, kS2, rd_of kS2, rd1_of kS2, kT2, rd_of kT2, rd1_of kT2, kX, rd_of kX, rd1_of kX, lS, lT, lX, beq_self_eq_true]
  have inj : storeOk s = true → storeOk t = true → decide (storeT s = storeT t) = decide (s = t) := fun a b => decide_eq_decide.2 ⟨fun e => storeT_inj a b e, fun e => by rw [e]⟩
  cases hs : storeOk s
  · simp (maxSteps := 1000000) -implicitDefEqProofs only [push_cast, seval, hs]
  · simp (maxSteps := 1000000) -implicitDefEqProofs only [push_cast, seval, hs]
    cases ht : storeOk t
    · simp (maxSteps := 1000000) -implicitDefEqProofs only [push_cast, seval, hs, ht]
    · rw [hs, ht] at inj
      simp only [hs, ht, if_true]
      simp (maxSteps := 1000000) -implicitDefEqProofs only [push_cast, seval, hs, ht, inj rfl rfl, beq_self_eq_true, decide_true]
      trace_state
end Go.Proofs.Ytfbcedjheempfaa
/- Bytes put together are a text. Conditions: those that each theorem names. -/
set_option linter.unusedSimpArgs false
set_option linter.unusedVariables false
namespace Go.Sim
variable {P : Program} {h : AH}
theorem Gr.conv {n0 e : Nat} {v : Value} {bs : List Nat} {K : Value → AH → Prop} (w : Gr n0 h v 1 (VN bs)) (hu : P.underlying e = some (.int .u8)) (hk : K (.string ⟨(bs.map UInt8.ofNat).toArray⟩) h) :
    convT (some (.slice e)) (some .string) P h v K := by
  rcases w with ⟨c, rfl, e2⟩ | ⟨id, off, m, rfl, hb2, ow⟩
  · have : bs = [] := by
      have := congrArg List.length e2
      rw [vn_len] at this
      exact List.eq_nil_of_length_eq_zero (by simpa using this)
    subst this
    exact ⟨hu, hk⟩
  · rw [convT_bs]
    have er := ow.rdAll
    rw [Nat.mul_one] at er
    rw [er]
    simp only [Option.bind_some, VN, toBytes_nat, onS_some]
    exact ⟨hu, hk⟩
theorem bytes_size (bs : List Nat) : (⟨(bs.map UInt8.ofNat).toArray⟩ : ByteArray).size = bs.length := by simp [ByteArray.size]
theorem storeT_size {s : Store} (h : storeOk s = true) : (storeT s).size ≤ 10000000 := by
  have hl := storeOk_len h
  have h1 := varsT_size h s.vars.length (Nat.le_refl _)
  have h2 := cellsT_size h s.cells.length (Nat.le_refl _)
  have h3 := vt_size (n := (s.vars.length : Nat)) (by omega)
  have h4 := vt_size (n := (s.cells.length : Nat)) (by omega)
  have h5 := short_size s.out (by omega)
  simp only [storeT, ByteArray.size_append]
  omega
end Go.Sim
namespace Go.Proofs.Ytfbcedjheempfaa
open Go Go.Sim Go.Proofs
set_option linter.unusedSimpArgs false
set_option linter.unusedVariables false
set_option maxRecDepth 100000
set_option maxHeartbeats 1000000
theorem l01Text_c (p : Nat) (S : Value) (l : List Nat) (n : Nat) (h : AH) (d : Dw p S l h) (hn : n ≤ 5000) :
    CC Try.prog 123 [.pointer (some ⟨p, 0, none⟩), .int .i64 (n : Nat)] h (fun v h' => (∃ y : ByteArray, v = .string y ∧ y.size = n) ∧ Dn p S l h h') := by
  have hp := d.lt
  refine CC.ofN Try.func123 Try.ntmps123 Try.results123 rfl (by decide) (by kernel_rfl) ?_
  simp (maxSteps := 1000000) -implicitDefEqProofs only [push_cast, seval]
  with_reducible refine bcase_d (fun hb => ?_) (fun hb => ?_)
  · exfalso; omega
  simp (maxSteps := 1000000) -implicitDefEqProofs only [push_cast, seval]
  refine WC.loopA (by kernel_rfl) [5, 6] [10, 11, 12, 13, 14, 15, 16, 17, 18, 19, 20] (fun a : Nat × List Nat × Value => [a.2.2, .int .i64 (a.1 : Nat)]) (fun a h' => a.1 ≤ n ∧ a.2.1.length = a.1 ∧ Gr h.n h' a.2.2 1 (VN a.2.1) ∧ Dn p S l h h') (fun a => n - a.1) (0, [], .slice (some ⟨h.n, 0, none⟩) 0 1) (by kernel_rfl) ⟨Nat.zero_le _, rfl, .inr ⟨h.n, 0, 0, rfl, Nat.le_refl _, Own.zero rfl 1⟩, d.refl.alloc hp _⟩ ?_
  intro a g h1 hJ
  have hi := hJ.1
  have hl := hJ.2.1
  have hg := hJ.2.2.1
  have d1 := hJ.2.2.2
  clear hJ
  have n1 := d1.n
  simp (maxSteps := 1000000) -implicitDefEqProofs only [push_cast, seval]
  with_reducible refine bcase_d (fun hb => ?_) (fun hb => ?_)
  · simp (maxSteps := 1000000) -implicitDefEqProofs only [push_cast, seval]
    with_reducible refine CC.num (l01Byte_c p S l _ (d.dn d1)) (fun y h2 q2 d2 => ?_)
    have n2 := d2.n
    have hg2 : Gr h.n h2 a.2.2 1 (VN a.2.1) := hg.keep n2 (fun i e => by have := hg.range e; exact d2.ob i this.2 (by omega))
    have wy : IntKind.u8.wrap (y : Int) = (y : Int) := w8 (by omega) (by omega)
    simp (maxSteps := 1000000) -implicitDefEqProofs only [push_cast, seval, wy]
    refine Gr.app1 (h0 := ⟨h.n, h2.ob⟩) si29 (by decide) (by decide) (notInt_sl und29) hg2 ⟨by show h.n ≤ h2.n; omega, fun _ _ => rfl⟩ rfl (by rw [vn_len]; omega) (by decide) (fun h3 gr ow p' hn' he => ?_)
    simp (maxSteps := 1000000) -implicitDefEqProofs only [push_cast, seval]
    rw [wrapSucc (by omega)]
    refine ⟨(a.1 + 1, a.2.1 ++ [y], .slice (some ⟨h2.n + 1, 0, none⟩) ((VN a.2.1).length / 1 + 1) 1), by kernel_rfl, ⟨by show a.1 + 1 ≤ n; omega, by show (a.2.1 ++ [y]).length = a.1 + 1; simp [hl], by rw [vn_snoc]; exact gr, ?_⟩, by show n - (a.1 + 1) < n - a.1; omega⟩
    exact (d1.trans d2).to hp (by omega) (fun i b c => he i (by omega) (fun e => by have := hg2.range e; omega)) (he p (by omega) (fun e => by have := hg2.range e; omega))
  · have hn1 : a.1 = n := by omega
    simp (maxSteps := 1000000) -implicitDefEqProofs only [push_cast, seval]
    refine hg.conv und5 ?_
    simp (maxSteps := 1000000) -implicitDefEqProofs only [push_cast, seval]
    exact ⟨⟨_, rfl, by rw [bytes_size]; omega⟩, d1⟩
theorem l02Spoilt_c (p : Nat) (S : Value) (l : List Nat) (s : ByteArray) (h : AH) (d : Dw p S l h) (hs : s.size ≤ 100000000) :
    CC Try.prog 96 [.pointer (some ⟨p, 0, none⟩), .string s] h (fun v h' => (∃ y : ByteArray, v = .string y ∧ y.size ≤ s.size + 1) ∧ Dn p S l h h') := by
  have hp := d.lt
  refine CC.ofN Try.func96 Try.ntmps96 Try.results96 rfl (by decide) (by kernel_rfl) ?_
  simp (maxSteps := 1000000) -implicitDefEqProofs only [push_cast, seval]
  with_reducible refine CC.num (l01Below_c p S l _ _ d) (fun k h1 q1 d1 => ?_)
  simp (maxSteps := 1000000) -implicitDefEqProofs only [push_cast, seval]
  have tx := fun (h : AH) (d : Dw p S l h) => l01Text_c p S l 1 h d (by omega)
  rw [show ((1 : Nat) : Int) = 1 from rfl] at tx
  have dw1 := d.dn d1
  with_reducible refine bcase_d (fun hb => ?_) (fun hb => ?_)
  · simp (maxSteps := 1000000) -implicitDefEqProofs only [push_cast, seval]
    with_reducible refine CC.txt (tx _ dw1) (fun t h2 q2 d2 => ?_)
    simp (maxSteps := 1000000) -implicitDefEqProofs only [push_cast, seval]
    refine And.intro (by omega) ?_
    exact ⟨⟨_, rfl, by rw [ByteArray.size_append]; omega⟩, d1.trans d2⟩
  · simp (maxSteps := 1000000) -implicitDefEqProofs only [push_cast, seval]
    with_reducible refine bcase_d (fun hb1 => ?_) (fun hb1 => ?_)
    · have w : IntKind.i64.wrap ((s.size : Int) + 1) = (s.size : Int) + 1 := by rw [w64 (by omega) (by omega)]
      simp (maxSteps := 1000000) -implicitDefEqProofs only [push_cast, seval, w]
      with_reducible refine CC.num (l01Below_c p S l _ _ dw1) (fun m h2 q2 d2 => ?_)
      have hm := q2.1 (by omega)
      simp (maxSteps := 1000000) -implicitDefEqProofs only [push_cast, seval]
      refine And.intro (by omega) (And.intro (by omega) ?_)
      exact ⟨⟨_, rfl, by rw [ByteArray.size_extract]; omega⟩, d1.trans d2⟩
    · simp (maxSteps := 1000000) -implicitDefEqProofs only [push_cast, seval]
      have rest : ∀ h', Dn p S l h h' → ((∃ y : ByteArray, Value.string s = .string y ∧ y.size ≤ s.size + 1) ∧ Dn p S l h h') := fun h' d' => ⟨⟨s, rfl, by omega⟩, d'⟩
      with_reducible refine bcase_d (fun hb2 => ?_) (fun hb2 => ?_)
      · simp (maxSteps := 1000000) -implicitDefEqProofs only [push_cast, seval, decide_eq_true hb2]
        with_reducible refine bcase_d (fun hb4 => ?_) (fun hb4 => ?_)
        · simp (maxSteps := 1000000) -implicitDefEqProofs only [push_cast, seval]
          with_reducible refine CC.num (l01Below_c p S l _ _ dw1) (fun m h2 q2 d2 => ?_)
          have hm := q2.1 (by omega)
          have wm : IntKind.i64.wrap ((m : Int) + 1) = (m : Int) + 1 := by rw [w64 (by omega) (by omega)]
          simp (maxSteps := 1000000) -implicitDefEqProofs only [push_cast, seval]
          refine WC.draw' (by kernel_rfl) (by kernel_rfl) (.q 0 (.q 1 (.q 2 (.q 3 (.q 6 (.q 7 (.q 8 (.q 9 (.a 4 false (.q 5 (.q 10 (.q 11 (.done))))))))))))) (by kernel_rfl) ?_
          simp (maxSteps := 1000000) -implicitDefEqProofs only [push_cast, seval, wm]
          repeat (with_reducible refine And.intro ?_ ?_; · (first | omega | decide))
          with_reducible refine CC.txt (tx _ (dw1.dn d2)) (fun t h3 q3 d3 => ?_)
          have x1 : ∀ a b, (s.extract a b).size ≤ s.size - a := fun a b => by rw [ByteArray.size_extract]; omega
          have x2 := x1 0 m
          have x3 := x1 (m + 1) s.size
          have e4 : ((m : Int) + 1).toNat = m + 1 := by omega
          simp (maxSteps := 1000000) -implicitDefEqProofs only [push_cast, seval, wm]
          rw [e4]
          have x4 : (s.extract 0 m).size = m := by rw [ByteArray.size_extract]; omega
          exact ⟨by omega, by rw [ByteArray.size_append]; omega, ⟨_, rfl, by rw [ByteArray.size_append, ByteArray.size_append]; omega⟩, (d1.trans d2).trans d3⟩
        · simp (maxSteps := 1000000) -implicitDefEqProofs only [push_cast, seval]
          exact rest _ d1
      · simp (maxSteps := 1000000) -implicitDefEqProofs only [push_cast, seval, decide_eq_false hb2]
        with_reducible refine bcase_d (fun hb3 => ?_) (fun hb3 => ?_)
        · simp (maxSteps := 1000000) -implicitDefEqProofs only [push_cast, seval, decide_eq_false hb2, decide_eq_true hb3]
          with_reducible refine bcase_d (fun hb4 => ?_) (fun hb4 => ?_)
          · simp (maxSteps := 1000000) -implicitDefEqProofs only [push_cast, seval]
            with_reducible refine CC.num (l01Below_c p S l _ _ dw1) (fun m h2 q2 d2 => ?_)
            have hm := q2.1 (by omega)
            have wm : IntKind.i64.wrap ((m : Int) + 1) = (m : Int) + 1 := by rw [w64 (by omega) (by omega)]
            simp (maxSteps := 1000000) -implicitDefEqProofs only [push_cast, seval]
            refine WC.draw' (by kernel_rfl) (by kernel_rfl) (.q 0 (.q 1 (.q 2 (.q 3 (.q 6 (.q 7 (.q 8 (.q 9 (.a 4 false (.q 5 (.q 10 (.q 11 (.done))))))))))))) (by kernel_rfl) ?_
            simp (maxSteps := 1000000) -implicitDefEqProofs only [push_cast, seval, wm]
            repeat (with_reducible refine And.intro ?_ ?_; · (first | omega | decide))
            with_reducible refine CC.txt (tx _ (dw1.dn d2)) (fun t h3 q3 d3 => ?_)
            have x1 : ∀ a b, (s.extract a b).size ≤ s.size - a := fun a b => by rw [ByteArray.size_extract]; omega
            have x2 := x1 0 m
            have x3 := x1 (m + 1) s.size
            have e4 : ((m : Int) + 1).toNat = m + 1 := by omega
            simp (maxSteps := 1000000) -implicitDefEqProofs only [push_cast, seval, wm]
            rw [e4]
            have x4 : (s.extract 0 m).size = m := by rw [ByteArray.size_extract]; omega
            exact ⟨by omega, by rw [ByteArray.size_append]; omega, ⟨_, rfl, by rw [ByteArray.size_append, ByteArray.size_append]; omega⟩, (d1.trans d2).trans d3⟩
          · simp (maxSteps := 1000000) -implicitDefEqProofs only [push_cast, seval]
            exact rest _ d1
        · simp (maxSteps := 1000000) -implicitDefEqProofs only [push_cast, seval, decide_eq_false hb2, decide_eq_false hb3]
          exact rest _ d1
theorem DrawReadStore_c (A : Option Addr) (c : Nat) (l : List Nat) (h : AH) (hR : RdE h A 1 byV l) (hl : ∀ n ∈ l, n < 256) (hn : l.length ≤ 1048576) :
    CC Try.prog 49 [.slice A l.length c] h (fun v h' => (∃ y : ByteArray, v = .string y ∧ y.size ≤ 100000000) ∧ Keep h.n h h') := by
  refine CC.withBig (fun big => ?_)
  have hm := maxLen_eq
  refine CC.ofN Try.func49 Try.ntmps49 Try.results49 rfl (by decide) (by kernel_rfl) ?_
  simp (maxSteps := 1000000) -implicitDefEqProofs only [push_cast, seval]
  with_reducible refine CC.mono (l01New_c A c l _ hR big hl hn) (fun v h1 hv => ?_)
  have e1 := hv.1
  have d1 : Dw h.n (.slice A l.length c) l h1 := hv.2.1
  have p1 := hv.2.2
  clear hv
  subst e1
  have hd := d1.lt
  simp (maxSteps := 1000000) -implicitDefEqProofs only [push_cast, seval]
  with_reducible refine CC.mono (l08Any_c _ _ _ _ d1) (fun v h2 hv => ?_)
  with_reducible refine Exists.elim hv (fun vA hv => ?_)
  with_reducible refine Exists.elim hv (fun vB hv => ?_)
  with_reducible refine Exists.elim hv (fun st hv => ?_)
  have e1 := hv.1
  have zs := hv.2.1.sz
  have o2 := hv.2.2.1
  have d2 := hv.2.2.2
  clear hv
  subst e1
  have hz : (if storeOk st = true then storeT st else ⟨#[]⟩).size ≤ 10000000 := by
    split
    · rename_i ok; exact storeT_size ok
    · show (0 : Nat) ≤ _; omega
  have hT := StoreText_s_t st vA vB h2 o2.rdt zs
  generalize (if storeOk st = true then storeT st else (⟨#[]⟩ : ByteArray)) = u at *
  simp (maxSteps := 1000000) -implicitDefEqProofs only [push_cast, seval]
  with_reducible refine CD.to hT ?_
  simp (maxSteps := 1000000) -implicitDefEqProofs only [push_cast, seval]
  with_reducible refine CC.bol (l01Once_c _ _ _ _ _ (d1.dn d2)) (fun b h3 d3 => ?_)
  have key : ∀ h', Dn h.n (.slice A l.length c) l h1 h' → Keep h.n h h' := fun h' d' i hi => (d'.ob i (by omega) (by omega)).trans (p1.ob i hi)
  simp (maxSteps := 1000000) -implicitDefEqProofs only [push_cast, seval]
  cases b
  · simp (maxSteps := 1000000) -implicitDefEqProofs only [push_cast, seval]
    exact ⟨⟨u, rfl, by omega⟩, key _ (d2.trans d3)⟩
  · simp (maxSteps := 1000000) -implicitDefEqProofs only [push_cast, seval]
    with_reducible refine CC.txt (l02Spoilt_c _ _ _ u _ ((d1.dn d2).dn d3) (by omega)) (fun y h4 q4 d4 => ?_)
    simp (maxSteps := 1000000) -implicitDefEqProofs only [push_cast, seval]
    exact ⟨⟨y, rfl, by omega⟩, key _ ((d2.trans d3).trans d4)⟩
end Go.Proofs.Ytfbcedjheempfaa
namespace Go.Proofs.Ytfbcedjheempfaa
open Go Go.Sim Go.Proofs
set_option linter.unusedSimpArgs false
set_option linter.unusedVariables false
set_option maxRecDepth 100000
set_option maxHeartbeats 1000000
theorem DrawStoreText_c (A : Option Addr) (c : Nat) (l : List Nat) (h : AH) (hR : RdE h A 1 byV l) (hl : ∀ n ∈ l, n < 256) (hn : l.length ≤ 1048576) :
    CC Try.prog 48 [.slice A l.length c] h (fun v h' => ∃ vA vB st, v = .agg #[vA, vB, .string st.out] ∧ SzB st ∧ OwnT h h' vA vB st ∧ Pre h h') := by
  refine CC.withBig (fun big => ?_)
  refine CC.ofN Try.func48 Try.ntmps48 Try.results48 rfl (by decide) (by kernel_rfl) ?_
  simp (maxSteps := 1000000) -implicitDefEqProofs only [push_cast, seval]
  have p0 := (Pre.refl h).alloc (AOb.cells [.slice none 0 0, .slice none 0 0, .string ⟨#[]⟩] .solo h.n)
  with_reducible refine CC.mono (l01New_c A c l _ (hR.pre big p0) (big.alloc _) hl hn) (fun v h1 hv => ?_)
  have e1 := hv.1
  have d1 : Dw (h.n + 1) (.slice A l.length c) l h1 := hv.2.1
  have p1 := hv.2.2
  clear hv
  subst e1
  have hn1 := p1.n
  simp (maxSteps := 1000000) -implicitDefEqProofs only [push_cast, seval]
  with_reducible refine CC.mono (l08Any_c _ _ _ _ d1) (fun v h2 hv => ?_)
  with_reducible refine Exists.elim hv (fun vA hv => ?_)
  with_reducible refine Exists.elim hv (fun vB hv => ?_)
  with_reducible refine Exists.elim hv (fun st hv => ?_)
  have e1 := hv.1
  have zs := hv.2.1
  have o2 := hv.2.2.1
  have d2 := hv.2.2.2
  clear hv
  subst e1
  have y1 := o2.one.1
  have y2 := o2.one.2
  have hn2 := d2.n
  have hn1' : h.n + 1 ≤ h1.n := hn1
  have hd := d1.lt
  have f2 : h2.ob h.n = _ := (d2.ob h.n (by omega) (by show h.n ≠ h.n + 1; omega)).trans ((p1.ob _ (Nat.lt_succ_self _)).trans (alloc_same _))
  have l2 : h.n < h2.n := by omega
  have q2 : Pre h h2 := ⟨by omega, fun i hi => (d2.ob i (by omega) (by show i ≠ h.n + 1; omega)).trans ((p0.trans p1).ob i hi)⟩
  simp (maxSteps := 1000000) -implicitDefEqProofs only [push_cast, seval, y1, y2, f2, rd_of f2, rd1_of f2, l2]
  refine ⟨vA, vB, st, rfl, zs, (o2.mono (by omega)).to (Nat.le_refl _) (fun i e => ?_), q2.set (Nat.le_refl _) _⟩
  have := o2.range e
  exact set_ne _ (by omega)
theorem ReadStore_x (s : ByteArray) (hs : s.size ≤ maxLen - 16) (h : AH) : CC Try.prog 44 [.string s] h (fun v h' => (iOk s = true → storeT (iS s) = s) ∧ ∃ vA vB, v = .tuple #[.agg #[vA, vB, .string (iS s).out], .bool (iOk s)] ∧ OwnS h h' vA vB (iS s) ∧ Pre h h') :=
  (ReadStore_s s hs h).mono (fun v h' ⟨vA, vB, K1, K2, st, e, o, p⟩ => by
    have ag := read_agree st
    refine ⟨fun hk => ?_, ?_⟩
    · have h1 := ag.1.trans hk
      simp only [sOk, Bool.and_eq_true, decide_eq_true_eq] at h1
      rw [iS, if_pos hk, ← ag.2 hk]
      exact h1.2.2
    · rw [ag.1] at e o
      have eS : (if iOk s = true then sStore s K1 K2 else store0) = iS s := by
        unfold iS
        split
        · rename_i hk; exact ag.2 hk
        · rfl
      rw [eS] at e o
      exact ⟨vA, vB, e, o, p⟩)
theorem law_StoreTexts (A : Option Addr) (c : Nat) (l : List Nat) (h : AH) (hR : RdE h A 1 byV l) (hl : ∀ n ∈ l, n < 256) (hn : l.length ≤ maxLen) : CE Try.prog 11 [.slice A l.length c] h fun v _ => v = .bool true := by
  refine CE.withBig (fun big => ?_)
  have hm := maxLen_eq
  refine CE.ofN Try.func11 Try.ntmps11 Try.results11 rfl (by kernel_rfl) ?_
  simp (maxSteps := 1000000) -implicitDefEqProofs only [push_cast, seval]
  repeat' (first | with_reducible (first | exact Keep.refl _ _ | assumption | exact byte_lt _ _ | apply Keep.alloc | (refine Keep.set ?_ ?_; rotate_left; · omega) | apply Pre.alloc | apply Pre.set | exact Pre.refl _ | exact le_alloc _ | (refine Pre.keep ?_; assumption) | (refine Pre.n ?_; assumption)) | ((with_reducible (first | refine CD.to (big_c _ _ _ _) ?_ | refine CQ.pure (fun _ => big_c _ _ _ _) ?_ | refine bcase_d (fun hb => ?_) (fun hb => ?_) | refine bcase_mk (fun hb => ?_) (fun hb => ?_))) <;> try simp (maxSteps := 1000000) -implicitDefEqProofs only [push_cast, seval]) | with_reducible refine And.intro ?_ ?_ | omega | (simp only [alloc_n, set_n, kill_n]; omega) | (exfalso; omega))
  have hn' : l.length ≤ 1048576 := by omega
  with_reducible refine CC.mono (DrawStoreText_c A c l _ hR hl hn') (fun v h1 hv => ?_)
  with_reducible refine Exists.elim hv (fun vA hv => ?_)
  with_reducible refine Exists.elim hv (fun vB hv => ?_)
  with_reducible refine Exists.elim hv (fun s hv => ?_)
  have e1 := hv.1
  have zs := hv.2.1.sz
  have oS := hv.2.2.1
  have p1 := hv.2.2.2
  clear hv
  subst e1
  have y1 := oS.one.1
  have y2 := oS.one.2
  simp (maxSteps := 1000000) -implicitDefEqProofs only [push_cast, seval, y1, y2]
  have pa : Pre h1 ((h1.alloc (AOb.cells [.slice none 0 0, .slice none 0 0, .string ⟨#[]⟩] .solo h1.n)).set h1.n (AOb.cells [vA, vB, .string s.out] .solo h1.n)) := ((Pre.refl h1).alloc _).set (Nat.le_refl _) _
  have kS : ((h1.alloc (AOb.cells [.slice none 0 0, .slice none 0 0, .string ⟨#[]⟩] .solo h1.n)).set h1.n (AOb.cells [vA, vB, .string s.out] .solo h1.n)).ob h1.n = _ := set_same _ _
  have nH : ((h1.alloc (AOb.cells [.slice none 0 0, .slice none 0 0, .string ⟨#[]⟩] .solo h1.n)).set h1.n (AOb.cells [vA, vB, .string s.out] .solo h1.n)).n = h1.n + 1 := rfl
  have rS := (oS.pre pa).rdt
  have pH := p1.trans pa
  generalize (h1.alloc (AOb.cells [.slice none 0 0, .slice none 0 0, .string ⟨#[]⟩] .solo h1.n)).set h1.n (AOb.cells [vA, vB, .string s.out] .solo h1.n) = H at *
  have lS : h1.n < H.n := by omega
  have hz : (if storeOk s = true then storeT s else ⟨#[]⟩).size ≤ 10000000 := by
    split
    · rename_i ok; exact storeT_size ok
    · show (0 : Nat) ≤ _; omega
  have hT := StoreText_i_t s vA vB H rS zs
  have hrb : storeOk s = true → iOk (if storeOk s = true then storeT s else ⟨#[]⟩) = true ∧ iS (if storeOk s = true then storeT s else ⟨#[]⟩) = s := fun ok => by
    rw [if_pos ok]
    have := read_back ok
    exact ⟨this.1, by rw [iS, if_pos this.1]; exact this.2⟩
  generalize hu : (if storeOk s = true then storeT s else (⟨#[]⟩ : ByteArray)) = u at *
  with_reducible refine CD.to hT ?_
  simp (maxSteps := 1000000) -implicitDefEqProofs only [push_cast, seval]
  with_reducible refine CC.mono (ReadStore_i u (by omega) _) (fun v h2 hv => ?_)
  with_reducible refine Exists.elim hv (fun xA hv => ?_)
  with_reducible refine Exists.elim hv (fun xB hv => ?_)
  have e1 := hv.1
  have oX := hv.2.1
  have p2 := hv.2.2
  clear hv
  subst e1
  have y3 := oX.one.1
  have y4 := oX.one.2
  have n2 := p2.n
  simp (maxSteps := 1000000) -implicitDefEqProofs only [push_cast, seval, y3, y4]
  have pb : Pre h2 ((h2.alloc (AOb.cells [.slice none 0 0, .slice none 0 0, .string ⟨#[]⟩] .solo h2.n)).set h2.n (AOb.cells [xA, xB, .string (iS u).out] .solo h2.n)) := ((Pre.refl h2).alloc _).set (Nat.le_refl _) _
  have kX : ((h2.alloc (AOb.cells [.slice none 0 0, .slice none 0 0, .string ⟨#[]⟩] .solo h2.n)).set h2.n (AOb.cells [xA, xB, .string (iS u).out] .solo h2.n)).ob h2.n = _ := set_same _ _
  have nK : ((h2.alloc (AOb.cells [.slice none 0 0, .slice none 0 0, .string ⟨#[]⟩] .solo h2.n)).set h2.n (AOb.cells [xA, xB, .string (iS u).out] .solo h2.n)).n = h2.n + 1 := rfl
  have rX := (oX.t.pre pb).rdt
  have kS2 := ((p2.trans pb).ob _ lS).trans kS
  have rS2 := rS.pre (p2.trans pb)
  have pK := pH.trans (p2.trans pb)
  generalize (h2.alloc (AOb.cells [.slice none 0 0, .slice none 0 0, .string ⟨#[]⟩] .solo h2.n)).set h2.n (AOb.cells [xA, xB, .string (iS u).out] .solo h2.n) = K at *
  with_reducible refine CC.mono (CC.quiet (DrawReadStore_c A c l K (hR.pre big pK) hl hn') (fun v ⟨y, e, _⟩ => by subst e; exact low_string _ _)) (fun v h3 hv => ?_)
  have e2 := hv.2
  have e1 := hv.1
  clear hv
  subst e2
  with_reducible refine Exists.elim e1 (fun w e1 => ?_)
  have hw := e1.2
  have e2 := e1.1
  subst e2
  have lX : h2.n < h3.n := by omega
  have lS2 : h1.n < h3.n := by omega
  simp (maxSteps := 1000000) -implicitDefEqProofs only [push_cast, seval]
  with_reducible refine CC.mono (ReadStore_i w (by omega) _) (fun v h4 hv => ?_)
  with_reducible refine Exists.elim hv (fun zA hv => ?_)
  with_reducible refine Exists.elim hv (fun zB hv => ?_)
  have e2 := hv.1
  have oZ := hv.2.1
  have p4 := hv.2.2
  clear hv
  subst e2
  have y5 := oZ.one.1
  have y6 := oZ.one.2
  have n4 := p4.n
  simp (maxSteps := 1000000) -implicitDefEqProofs only [push_cast, seval, y5, y6]
  have pc : Pre h4 ((h4.alloc (AOb.cells [.slice none 0 0, .slice none 0 0, .string ⟨#[]⟩] .solo h4.n)).set h4.n (AOb.cells [zA, zB, .string (iS w).out] .solo h4.n)) := ((Pre.refl h4).alloc _).set (Nat.le_refl _) _
  have kZ : ((h4.alloc (AOb.cells [.slice none 0 0, .slice none 0 0, .string ⟨#[]⟩] .solo h4.n)).set h4.n (AOb.cells [zA, zB, .string (iS w).out] .solo h4.n)).ob h4.n = _ := set_same _ _
  have nM : ((h4.alloc (AOb.cells [.slice none 0 0, .slice none 0 0, .string ⟨#[]⟩] .solo h4.n)).set h4.n (AOb.cells [zA, zB, .string (iS w).out] .solo h4.n)).n = h4.n + 1 := rfl
  have rZ := (oZ.t.pre pc).rdt
  have kS4 := ((p4.trans pc).ob _ lS2).trans kS2
  have kX4 := ((p4.trans pc).ob _ lX).trans kX
  have rS4 := rS2.pre (p4.trans pc)
  have rX4 := rX.pre (p4.trans pc)
  generalize (h4.alloc (AOb.cells [.slice none 0 0, .slice none 0 0, .string ⟨#[]⟩] .solo h4.n)).set h4.n (AOb.cells [zA, zB, .string (iS w).out] .solo h4.n) = M at *
  with_reducible refine CC.mono (ReadStore_x w (by omega) _) (fun v h5 hv => ?_)
  have bk := hv.1
  have hv := hv.2
  with_reducible refine Exists.elim hv (fun tA hv => ?_)
  with_reducible refine Exists.elim hv (fun tB hv => ?_)
  have e2 := hv.1
  have oT := hv.2.1
  have p5 := hv.2.2
  clear hv
  subst e2
  have y7 := oT.one.1
  have y8 := oT.one.2
  have n5 := p5.n
  simp (maxSteps := 1000000) -implicitDefEqProofs only [push_cast, seval, y7, y8]
  have pd : Pre h5 ((h5.alloc (AOb.cells [.slice none 0 0, .slice none 0 0, .string ⟨#[]⟩] .solo h5.n)).set h5.n (AOb.cells [tA, tB, .string (iS w).out] .solo h5.n)) := ((Pre.refl h5).alloc _).set (Nat.le_refl _) _
  have nN : ((h5.alloc (AOb.cells [.slice none 0 0, .slice none 0 0, .string ⟨#[]⟩] .solo h5.n)).set h5.n (AOb.cells [tA, tB, .string (iS w).out] .solo h5.n)).n = h5.n + 1 := rfl
  have kS6 := ((p5.trans pd).ob _ (by omega)).trans kS4
  have kX6 := ((p5.trans pd).ob _ (by omega)).trans kX4
  have kZ6 := ((p5.trans pd).ob _ (by omega)).trans kZ
  have rS6 := rS4.pre (p5.trans pd)
  have rX6 := rX4.pre (p5.trans pd)
  have rZ6 := rZ.pre (p5.trans pd)
  generalize (h5.alloc (AOb.cells [.slice none 0 0, .slice none 0 0, .string ⟨#[]⟩] .solo h5.n)).set h5.n (AOb.cells [tA, tB, .string (iS w).out] .solo h5.n) = N at *
  have l1 : h1.n < N.n := by omega
  have l2 : h2.n < N.n := by omega
  have l4 : h4.n < N.n := by omega
  have zU := iS_sz u (by omega)
  have zW := iS_sz w (by omega)
  have c1 := StoreText_i_t (iS w) zA zB N rZ6 zW
  have c2 := StoreOk_s_t s vA vB N rS6 zs
  have c3 := SameStore_s (iS u) s xA xB vA vB N rX6 rS6 zU zs
  simp (maxSteps := 1000000) -implicitDefEqProofs only [push_cast, seval, kS6, rd_of kS6, rd1_of kS6, kX6, rd_of kX6, rd1_of kX6, kZ6, rd_of kZ6, rd1_of kZ6, l1, l2, l4]
  with_reducible refine CD.to c1 ?_
  simp (maxSteps := 1000000) -implicitDefEqProofs only [push_cast, seval, kS6, rd_of kS6, rd1_of kS6, kX6, rd_of kX6, rd1_of kX6, kZ6, rd_of kZ6, rd1_of kZ6, l1, l2, l4]
  with_reducible refine CD.to c2 ?_
  simp (maxSteps := 1000000) -implicitDefEqProofs only [push_cast, seval, kS6, rd_of kS6, rd1_of kS6, kX6, rd_of kX6, rd1_of kX6, kZ6, rd_of kZ6, rd1_of kZ6, l1, l2, l4, beq_self_eq_true]
  have okW : iOk w = true → storeOk (iS w) = true := fun hk => by
    rw [iS, if_pos hk]
    simp only [iOk, Bool.and_eq_true] at hk
    exact hk.2
  have tail : iOk w = true → decide ((if storeOk (iS w) = true then storeT (iS w) else (⟨#[]⟩ : ByteArray)) = w) = true := fun hk => by
    rw [if_pos (okW hk), bk hk]; simp
  cases hs : storeOk s
  · simp (maxSteps := 1000000) -implicitDefEqProofs only [push_cast, seval, hs]
    cases hk : iOk w
    · simp (maxSteps := 1000000) -implicitDefEqProofs only [push_cast, seval, hs, hk, beq_self_eq_true]
    · have t1 := tail hk
      simp (maxSteps := 1000000) -implicitDefEqProofs only [push_cast, seval, hs, hk, t1, beq_self_eq_true]
  · have rb := hrb hs
    rw [rb.2] at c3 kX6
    simp (maxSteps := 1000000) -implicitDefEqProofs only [push_cast, seval, hs, rb.1, kS6, rd_of kS6, rd1_of kS6, kX6, rd_of kX6, rd1_of kX6, kZ6, rd_of kZ6, rd1_of kZ6, l1, l2, l4]
    with_reducible refine CD.to c3 ?_
    cases hk : iOk w
    · simp (maxSteps := 1000000) -implicitDefEqProofs only [push_cast, seval, hs, rb.1, hk, beq_self_eq_true, decide_true]
    · have t1 := tail hk
      simp (maxSteps := 1000000) -implicitDefEqProofs only [push_cast, seval, hs, rb.1, hk, t1, beq_self_eq_true, decide_true]
      trace_state
end Go.Proofs.Ytfbcedjheempfaa
