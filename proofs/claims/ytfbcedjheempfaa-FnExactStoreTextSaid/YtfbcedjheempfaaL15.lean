/- A part of the proof of the row: contracts of functions that it reaches. Conditions: those that each theorem names. -/
import Derived.Test.YtfbcedjheempfaaL14
namespace Go.Proofs.Ytfbcedjheempfaa
open Go Go.Sim Go.Proofs
set_option linter.unusedSimpArgs false
set_option linter.unusedVariables false
set_option maxRecDepth 100000
set_option maxHeartbeats 1000000
theorem StoreText_i (s : Store) (A B : Option Addr) (ca cb : Nat) (h : AH) (hR : RdS h A B s) (hz : Sz s) :
    CD Try.prog 42 [.agg #[.slice A s.vars.length ca, .slice B s.cells.length cb, .string s.out]] h (.tuple #[.string (if storeOk s = true then storeT s else ⟨#[]⟩), .bool (storeOk s)]) h := by
  refine CD.withBig (fun big => ?_)
  refine CD.quiet ?_ (low_tuple (by simp [low_string, low_bool]))
  have hA := hR.vars
  have hB := hR.cells
  have pb : Pre h (h.alloc (AOb.cells [Value.slice A s.vars.length ca, Value.slice B s.cells.length cb, Value.string s.out] Stat.solo h.n)) := (Pre.refl _).alloc _
  have hO := StoreOk_i s A B ca cb _ ⟨hR.vars.pre big pb, hR.cells.pre big pb⟩ hz
  cases hok : storeOk s with
  | false =>
    rw [hok] at hO
    refine CC.ofN Try.func42 Try.ntmps42 Try.results42 rfl (by decide) (by kernel_rfl) ?_
    simp -implicitDefEqProofs only [push_cast, seval]
    repeat' (first | with_reducible (first | exact Keep.refl _ _ | assumption | exact byte_lt _ _ | apply Keep.alloc | (refine Keep.set ?_ ?_; rotate_left; · omega) | apply Pre.alloc | apply Pre.set | exact Pre.refl _ | exact le_alloc _ | (refine Pre.keep ?_; assumption) | (refine Pre.n ?_; assumption)) | ((with_reducible (first | refine CD.to (hO) ?_ | refine CQ.pure (fun _ => hO) ?_ | refine bcase_d (fun hb => ?_) (fun hb => ?_) | refine bcase_mk (fun hb => ?_) (fun hb => ?_))) <;> try simp -implicitDefEqProofs only [push_cast, seval]) | with_reducible refine And.intro ?_ ?_ | omega | (simp only [alloc_n, set_n, kill_n]; omega) | (exfalso; omega))
    all_goals rfl
  | true =>
    rw [hok] at hO
    have hl := storeOk_len hok
    have zn1 := vt_size (n := (s.vars.length : Nat)) (by omega)
    have zn2 := vt_size (n := (s.cells.length : Nat)) (by omega)
    refine CC.ofN Try.func42 Try.ntmps42 Try.results42 rfl (by decide) (by kernel_rfl) ?_
    simp -implicitDefEqProofs only [push_cast, seval]
    repeat' (first | with_reducible (first | exact Keep.refl _ _ | assumption | exact byte_lt _ _ | apply Keep.alloc | (refine Keep.set ?_ ?_; rotate_left; · omega) | apply Pre.alloc | apply Pre.set | exact Pre.refl _ | exact le_alloc _ | (refine Pre.keep ?_; assumption) | (refine Pre.n ?_; assumption)) | ((with_reducible (first | refine CD.to (hO) ?_ | refine CQ.pure (fun _ => hO) ?_ | refine bcase_d (fun hb => ?_) (fun hb => ?_) | refine bcase_mk (fun hb => ?_) (fun hb => ?_))) <;> try simp -implicitDefEqProofs only [push_cast, seval]) | with_reducible refine And.intro ?_ ?_ | omega | (simp only [alloc_n, set_n, kill_n]; omega) | (exfalso; omega))
    with_reducible refine CD.to (numberText_c _ (by omega) _) ?_
    simp -implicitDefEqProofs only [push_cast, seval]
    repeat (with_reducible refine And.intro ?_ ?_; · (first | omega | decide))
    refine WC.loopA (by kernel_rfl) [4, 20] [6, 21, 22, 23, 24, 25, 26, 27, 28, 29, 30, 31, 32, 33] (fun a : Nat × Value => [a.2, .int .i64 (a.1 : Nat)]) (fun a h' => a.1 ≤ s.vars.length ∧ Gr (h.n + 1) h' a.2 1 (bytesV (vt (s.vars.length : Nat) ++ varsT s.vars a.1)) ∧ Pre (h.alloc (AOb.cells [Value.slice A s.vars.length ca, Value.slice B s.cells.length cb, Value.string s.out] Stat.solo h.n)) h') (fun a => s.vars.length - a.1) (0, .slice (some ⟨h.n + 1, 0, none⟩) (vt (s.vars.length : Nat)).size 1) (by kernel_rfl) ⟨Nat.zero_le _, by rw [varsT_zero, app_empty]; exact Gr.new (h := h.alloc _) (Nat.le_refl _) _ _ 1 (by rw [bytesV_len, Nat.mul_one]), (Pre.refl _).alloc _⟩ ?_
    intro a g h1 hJ
    have hi := hJ.1
    have ho := hJ.2.1
    have hp := hJ.2.2
    clear hJ
    have p0 : Pre h h1 := pb.trans hp
    have l1 : h.n < h1.n := Nat.lt_of_lt_of_le (lt_alloc _) hp.n
    have e1 : h1.ob h.n = _ := (hp.ob _ (lt_alloc _)).trans (alloc_same _)
    simp -implicitDefEqProofs only [push_cast, seval]
    with_reducible refine bcase_d (fun hb => ?_) (fun hb => ?_)
    · have hi' : a.1 < s.vars.length := by omega
      with_reducible refine hA.use big p0 hi' (fun id off eA hlt hr => ?_)
      subst eA
      simp only [Var.enc] at hr
      have r0 := (rd_2 hr).1
      have r1 := (rd_2 hr).2
      have hq := varOk_size hok hi'
      have z1 := varsT_size hok a.1 hi
      have z2 := short_size s.vars[a.1].name (by omega)
      have z3 := short_size s.vars[a.1].val (by omega)
      have z6 := short_pos s.vars[a.1].name
      simp -implicitDefEqProofs only [push_cast, seval, hr, r0, r1, hlt, l1]
      repeat (with_reducible refine And.intro ?_ ?_; · (first | omega | decide))
      refine WC.draw' (by kernel_rfl) (by kernel_rfl) (.q 0 (.q 1 (.q 2 (.q 4 (.q 5 (.c 3 (.c 6 (.q 7 (.a 8 false (.q 9 (.done))))))))))) (by kernel_rfl) ?_
      simp -implicitDefEqProofs only [push_cast, seval, hr, r0, r1, hlt, l1]
      repeat' (first | with_reducible (first | exact Keep.refl _ _ | assumption | exact byte_lt _ _ | apply Keep.alloc | (refine Keep.set ?_ ?_; rotate_left; · omega) | apply Pre.alloc | apply Pre.set | exact Pre.refl _ | exact le_alloc _ | (refine Pre.keep ?_; assumption) | (refine Pre.n ?_; assumption)) | ((with_reducible (first | refine CD.to (shortOf_c _ ?_ _) ?_ | refine CQ.pure (fun _ => shortOf_c _ ?_ _) ?_ | refine bcase_d (fun hb => ?_) (fun hb => ?_) | refine bcase_mk (fun hb => ?_) (fun hb => ?_))) <;> try simp -implicitDefEqProofs only [push_cast, seval, hr, r0, r1, hlt, ByteArray.size_append, l1]) | with_reducible refine And.intro ?_ ?_ | omega | (simp only [alloc_n, set_n, kill_n]; omega) | (exfalso; omega))
      have p12 : Pre h1 ((h1.alloc (AOb.cells [Value.string ⟨#[]⟩, Value.string ⟨#[]⟩] Stat.solo h1.n)).set h1.n (AOb.cells [Value.string s.vars[a.1].name, Value.string s.vars[a.1].val] Stat.solo h1.n)) := ((Pre.refl _).alloc _).set (Nat.le_refl _) _
      have ho' : Gr (h.alloc (AOb.cells [Value.slice (some ⟨id, off, none⟩) s.vars.length ca, Value.slice B s.cells.length cb, Value.string s.out] Stat.solo h.n)).n h1 a.2 1 _ := ho
      have zl : (short s.vars[a.1].name ++ short s.vars[a.1].val).size = (short s.vars[a.1].name).size + (short s.vars[a.1].val).size := ByteArray.size_append
      have zl2 : (vt (s.vars.length : Nat) ++ varsT s.vars a.1).size = (vt (s.vars.length : Nat)).size + (varsT s.vars a.1).size := ByteArray.size_append
      with_reducible refine Gr.app (n0 := 0) si29 (by decide) (by decide) (notInt_str und9) (ho'.pre p12) (hp.trans p12) (asrc_str _) ?_ ?_ ?_ (fun h' gr ow p' hn' he => ?_)
      · rw [bytesV_len, Nat.mul_one]
      · rw [bytesV_len]; omega
      · omega
      have hk : h'.ob h1.n = AOb.cells [Value.string s.vars[a.1].name, Value.string s.vars[a.1].val] Stat.solo h1.n := (he h1.n (by show h1.n < h1.n + 1; omega) ho.not_new).trans (set_same _ _)
      simp -implicitDefEqProofs only [push_cast, seval, hk]
      rw [wrapSucc (by omega)]
      refine ⟨(a.1 + 1, .slice (some ⟨h1.n + 1, 0, none⟩) ((bytesV (vt (s.vars.length : Nat) ++ varsT s.vars a.1)).length / 1 + (short s.vars[a.1].name ++ short s.vars[a.1].val).size) 1), by kernel_rfl, ⟨by show a.1 + 1 ≤ s.vars.length; omega, ?_, p'⟩, by show s.vars.length - (a.1 + 1) < s.vars.length - a.1; omega⟩
      show Gr (h.n + 1) h' _ 1 (bytesV (vt (s.vars.length : Nat) ++ varsT s.vars (a.1 + 1)))
      rw [varsT_succ hi', Var.txt, app_assoc, bytesV_append (vt (s.vars.length : Nat) ++ varsT s.vars a.1)]
      exact gr
    · have hn : a.1 = s.vars.length := by omega
      rw [hn] at ho
      have z1 := varsT_size hok s.vars.length (Nat.le_refl _)
      clear hi hb
      simp -implicitDefEqProofs only [push_cast, seval, rd_of e1, rd1_of e1, l1]
      with_reducible refine CD.to (numberText_c _ (by omega) _) ?_
      simp -implicitDefEqProofs only [push_cast, seval]
      have zp := vt_pos (s.cells.length : Nat)
      have ho' : Gr (h.alloc (AOb.cells [Value.slice A s.vars.length ca, Value.slice B s.cells.length cb, Value.string s.out] Stat.solo h.n)).n h1 a.2 1 _ := ho
      have zl2 : (vt (s.vars.length : Nat) ++ varsT s.vars s.vars.length).size = (vt (s.vars.length : Nat)).size + (varsT s.vars s.vars.length).size := ByteArray.size_append
      with_reducible refine Gr.app (n0 := 0) si29 (by decide) (by decide) (notInt_str und9) ho' hp (asrc_str _) ?_ ?_ ?_ (fun h3 gr ow p3 hn3 he => ?_)
      · rw [bytesV_len, Nat.mul_one]
      · rw [bytesV_len]; omega
      · omega
      rw [← bytesV_append] at gr
      with_reducible refine nameB (vt (s.vars.length : Nat) ++ varsT s.vars s.vars.length ++ vt (s.cells.length : Nat)) (fun b0 hb0 => ?_)
      rw [← hb0] at gr
      have zb : b0.size = (vt (s.vars.length : Nat)).size + (varsT s.vars s.vars.length).size + (vt (s.cells.length : Nat)).size := by rw [hb0, ByteArray.size_append, ByteArray.size_append]
      have p03 : Pre h h3 := pb.trans p3
      have l3 : h.n < h3.n := Nat.lt_of_lt_of_le (lt_alloc _) p3.n
      have e3 : h3.ob h.n = _ := (p3.ob _ (lt_alloc _)).trans (alloc_same _)
      simp -implicitDefEqProofs only [push_cast, seval, rd_of e3, rd1_of e3, l3]
      refine WC.loopA (by kernel_rfl) [4, 43] [8, 44, 45, 46, 47, 48, 49, 50, 51, 52, 53, 54, 55, 56, 57, 58, 59, 60] (fun c : Nat × Value => [c.2, .int .i64 (c.1 : Nat)]) (fun c h' => c.1 ≤ s.cells.length ∧ Gr (h.n + 1) h' c.2 1 (bytesV (b0 ++ cellsT s.cells c.1)) ∧ Pre (h.alloc (AOb.cells [Value.slice A s.vars.length ca, Value.slice B s.cells.length cb, Value.string s.out] Stat.solo h.n)) h') (fun c => s.cells.length - c.1) (0, _) (by kernel_rfl) ⟨Nat.zero_le _, by rw [cellsT_zero, app_empty]; exact gr, p3⟩ ?_
      intro c g2 h2 hJ
      have hi := hJ.1
      have hc := hJ.2.1
      have hp2 := hJ.2.2
      clear hJ
      have p2 : Pre h h2 := pb.trans hp2
      have l2 : h.n < h2.n := Nat.lt_of_lt_of_le (lt_alloc _) hp2.n
      have e2 : h2.ob h.n = _ := (hp2.ob _ (lt_alloc _)).trans (alloc_same _)
      simp -implicitDefEqProofs only [push_cast, seval]
      with_reducible refine bcase_d (fun hb => ?_) (fun hb => ?_)
      · have hi' : c.1 < s.cells.length := by omega
        with_reducible refine hB.use big p2 hi' (fun id off eA hlt hr => ?_)
        subst eA
        simp only [Cell.enc] at hr
        have r0 := (rd_3 hr).1
        have r1 := (rd_3 hr).2.1
        have r2 := (rd_3 hr).2.2
        have hq := cellOk_size hok hi'
        have y1 := cellsT_size hok c.1 hi
        have y2 := short_size s.cells[c.1].name (by omega)
        have y3 := short_size s.cells[c.1].key (by omega)
        have y5 := short_size s.cells[c.1].val (by omega)
        have y6 := short_pos s.cells[c.1].name
        simp -implicitDefEqProofs only [push_cast, seval, hr, r0, r1, r2, hlt, l2]
        repeat (with_reducible refine And.intro ?_ ?_; · (first | omega | decide))
        refine WC.draw' (by kernel_rfl) (by kernel_rfl) (.q 0 (.q 1 (.q 2 (.q 4 (.q 5 (.q 8 (.q 9 (.c 3 (.c 6 (.q 7 (.c 10 (.q 11 (.a 12 false (.q 13 (.done))))))))))))))) (by kernel_rfl) ?_
        simp -implicitDefEqProofs only [push_cast, seval, hr, r0, r1, r2, hlt, l2]
        repeat' (first | with_reducible (first | exact Keep.refl _ _ | assumption | exact byte_lt _ _ | apply Keep.alloc | (refine Keep.set ?_ ?_; rotate_left; · omega) | apply Pre.alloc | apply Pre.set | exact Pre.refl _ | exact le_alloc _ | (refine Pre.keep ?_; assumption) | (refine Pre.n ?_; assumption)) | ((with_reducible (first | refine CD.to (shortOf_c _ ?_ _) ?_ | refine CQ.pure (fun _ => shortOf_c _ ?_ _) ?_ | refine bcase_d (fun hb => ?_) (fun hb => ?_) | refine bcase_mk (fun hb => ?_) (fun hb => ?_))) <;> try simp -implicitDefEqProofs only [push_cast, seval, hr, r0, r1, r2, hlt, ByteArray.size_append, l2]) | with_reducible refine And.intro ?_ ?_ | omega | (simp only [alloc_n, set_n, kill_n]; omega) | (exfalso; omega))
        have p12 : Pre h2 ((h2.alloc (AOb.cells [Value.string ⟨#[]⟩, Value.string ⟨#[]⟩, Value.string ⟨#[]⟩] Stat.solo h2.n)).set h2.n (AOb.cells [Value.string s.cells[c.1].name, Value.string s.cells[c.1].key, Value.string s.cells[c.1].val] Stat.solo h2.n)) := ((Pre.refl _).alloc _).set (Nat.le_refl _) _
        have hc' : Gr (h.alloc (AOb.cells [Value.slice A s.vars.length ca, Value.slice (some ⟨id, off, none⟩) s.cells.length cb, Value.string s.out] Stat.solo h.n)).n h2 c.2 1 _ := hc
        have zl : (short s.cells[c.1].name ++ short s.cells[c.1].key ++ short s.cells[c.1].val).size = (short s.cells[c.1].name).size + (short s.cells[c.1].key).size + (short s.cells[c.1].val).size := by rw [ByteArray.size_append, ByteArray.size_append]
        have zl2 : (b0 ++ cellsT s.cells c.1).size = b0.size + (cellsT s.cells c.1).size := ByteArray.size_append
        with_reducible refine Gr.app (n0 := 0) si29 (by decide) (by decide) (notInt_str und9) (hc'.pre p12) (hp2.trans p12) (asrc_str _) ?_ ?_ ?_ (fun h' gr ow p' hn' he => ?_)
        · rw [bytesV_len, Nat.mul_one]
        · rw [bytesV_len]; omega
        · omega
        have hk : h'.ob h2.n = AOb.cells [Value.string s.cells[c.1].name, Value.string s.cells[c.1].key, Value.string s.cells[c.1].val] Stat.solo h2.n := (he h2.n (by show h2.n < h2.n + 1; omega) hc.not_new).trans (set_same _ _)
        simp -implicitDefEqProofs only [push_cast, seval, hk]
        rw [wrapSucc (by omega)]
        refine ⟨(c.1 + 1, .slice (some ⟨h2.n + 1, 0, none⟩) ((bytesV (b0 ++ cellsT s.cells c.1)).length / 1 + (short s.cells[c.1].name ++ short s.cells[c.1].key ++ short s.cells[c.1].val).size) 1), by kernel_rfl, ⟨by show c.1 + 1 ≤ s.cells.length; omega, ?_, p'⟩, by show s.cells.length - (c.1 + 1) < s.cells.length - c.1; omega⟩
        show Gr (h.n + 1) h' _ 1 (bytesV (b0 ++ cellsT s.cells (c.1 + 1)))
        rw [cellsT_succ hi', Cell.txt, app_assoc, bytesV_append (b0 ++ cellsT s.cells c.1)]
        exact gr
      · have hn2 : c.1 = s.cells.length := by omega
        rw [hn2] at hc
        have y1 := cellsT_size hok s.cells.length (Nat.le_refl _)
        have y2 := short_size s.out (by omega)
        have y6 := short_pos s.out
        clear hi hb
        simp -implicitDefEqProofs only [push_cast, seval, rd_of e2, rd1_of e2, l2]
        repeat' (first | with_reducible (first | exact Keep.refl _ _ | assumption | exact byte_lt _ _ | apply Keep.alloc | (refine Keep.set ?_ ?_; rotate_left; · omega) | apply Pre.alloc | apply Pre.set | exact Pre.refl _ | exact le_alloc _ | (refine Pre.keep ?_; assumption) | (refine Pre.n ?_; assumption)) | ((with_reducible (first | refine CD.to (shortOf_c _ ?_ _) ?_ | refine CQ.pure (fun _ => shortOf_c _ ?_ _) ?_ | refine bcase_d (fun hb => ?_) (fun hb => ?_) | refine bcase_mk (fun hb => ?_) (fun hb => ?_))) <;> try simp -implicitDefEqProofs only [push_cast, seval, rd_of e2, rd1_of e2, l2]) | with_reducible refine And.intro ?_ ?_ | omega | (simp only [alloc_n, set_n, kill_n]; omega) | (exfalso; omega))
        have hc' : Gr (h.alloc (AOb.cells [Value.slice A s.vars.length ca, Value.slice B s.cells.length cb, Value.string s.out] Stat.solo h.n)).n h2 c.2 1 _ := hc
        have zl2 : (b0 ++ cellsT s.cells s.cells.length).size = b0.size + (cellsT s.cells s.cells.length).size := ByteArray.size_append
        with_reducible refine Gr.app (n0 := 0) si29 (by decide) (by decide) (notInt_str und9) hc' hp2 (asrc_str _) ?_ ?_ ?_ (fun h4 gr ow p4 hn4 he => ?_)
        · rw [bytesV_len, Nat.mul_one]
        · rw [bytesV_len]; omega
        · omega
        have er := ow.rdAll
        rw [Nat.mul_one] at er
        have et : toBytes (bytesV (b0 ++ cellsT s.cells s.cells.length) ++ bytesV (short s.out)) = some (b0 ++ cellsT s.cells s.cells.length ++ short s.out).data.toList := by
          rw [← bytesV_append, toBytes_bytesV']
        simp -implicitDefEqProofs only [push_cast, seval, er, et]
        have pk : Pre h h4 := pb.trans p4
        refine ⟨?_, pk.keep⟩
        have e : (⟨(b0 ++ cellsT s.cells s.cells.length ++ short s.out).data.toList.toArray⟩ : ByteArray) = storeT s := by
          rw [storeT, hb0]
        rw [e]
end Go.Proofs.Ytfbcedjheempfaa
