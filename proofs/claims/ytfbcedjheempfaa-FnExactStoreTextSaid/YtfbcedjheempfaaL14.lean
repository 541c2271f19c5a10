/- A part of the proof of the row: contracts of functions that it reaches. Conditions: those that each theorem names. -/
import Derived.Test.YtfbcedjheempfaaL13
namespace Go.Proofs.Ytfbcedjheempfaa
open Go Go.Sim Go.Proofs
set_option linter.unusedSimpArgs false
set_option linter.unusedVariables false
set_option maxRecDepth 100000
set_option maxHeartbeats 1000000
theorem StoreText_s (s : Store) (A B : Option Addr) (ca cb : Nat) (h : AH) (hR : RdS h A B s) (hz : Sz s) :
    CD Try.prog 36 [.agg #[.slice A s.vars.length ca, .slice B s.cells.length cb, .string s.out]] h (.tuple #[.string (if storeOk s = true then storeT s else ⟨#[]⟩), .bool (storeOk s)]) h := by
  refine CD.withBig (fun big => ?_)
  refine CD.quiet ?_ (low_tuple (by simp [low_string, low_bool]))
  have hA := hR.vars
  have hB := hR.cells
  have pb : Pre h (h.alloc (AOb.cells [Value.slice A s.vars.length ca, Value.slice B s.cells.length cb, Value.string s.out] Stat.solo h.n)) := (Pre.refl _).alloc _
  have hO := StoreOk_s s A B ca cb _ ⟨hR.vars.pre big pb, hR.cells.pre big pb⟩ hz
  cases hok : storeOk s with
  | false =>
    rw [hok] at hO
    refine CC.ofN Try.func36 Try.ntmps36 Try.results36 rfl (by decide) (by kernel_rfl) ?_
    simp -implicitDefEqProofs only [push_cast, seval]
    repeat' (first | with_reducible (first | exact Keep.refl _ _ | assumption | exact byte_lt _ _ | apply Keep.alloc | (refine Keep.set ?_ ?_; rotate_left; · omega) | apply Pre.alloc | apply Pre.set | exact Pre.refl _ | exact le_alloc _ | (refine Pre.keep ?_; assumption) | (refine Pre.n ?_; assumption)) | ((with_reducible (first | refine CD.to (hO) ?_ | refine CQ.pure (fun _ => hO) ?_ | refine bcase_d (fun hb => ?_) (fun hb => ?_) | refine bcase_mk (fun hb => ?_) (fun hb => ?_))) <;> try simp -implicitDefEqProofs only [push_cast, seval]) | with_reducible refine And.intro ?_ ?_ | omega | (simp only [alloc_n, set_n, kill_n]; omega) | (exfalso; omega))
    all_goals rfl
  | true =>
    rw [hok] at hO
    have hl := storeOk_len hok
    have zn1 := vt_size (n := (s.vars.length : Nat)) (by omega)
    have zn2 := vt_size (n := (s.cells.length : Nat)) (by omega)
    refine CC.ofN Try.func36 Try.ntmps36 Try.results36 rfl (by decide) (by kernel_rfl) ?_
    simp -implicitDefEqProofs only [push_cast, seval]
    repeat' (first | with_reducible (first | exact Keep.refl _ _ | assumption | exact byte_lt _ _ | apply Keep.alloc | (refine Keep.set ?_ ?_; rotate_left; · omega) | apply Pre.alloc | apply Pre.set | exact Pre.refl _ | exact le_alloc _ | (refine Pre.keep ?_; assumption) | (refine Pre.n ?_; assumption)) | ((with_reducible (first | refine CD.to (hO) ?_ | refine CQ.pure (fun _ => hO) ?_ | refine bcase_d (fun hb => ?_) (fun hb => ?_) | refine bcase_mk (fun hb => ?_) (fun hb => ?_))) <;> try simp -implicitDefEqProofs only [push_cast, seval]) | with_reducible refine And.intro ?_ ?_ | omega | (simp only [alloc_n, set_n, kill_n]; omega) | (exfalso; omega))
    with_reducible refine CD.to (l01Var_c _ (by omega) _) ?_
    simp -implicitDefEqProofs only [push_cast, seval]
    refine WC.loopA (by kernel_rfl) [4, 5] [14, 15, 16, 17, 18, 19, 20, 21, 22, 23, 24, 25, 26, 27, 28, 29, 30, 31, 32, 33, 34, 35, 36, 37] (fun a : Nat × ByteArray => [.string a.2, .int .i64 (a.1 : Nat)]) (fun a h' => a.1 ≤ s.vars.length ∧ a.2 = vt (s.vars.length : Nat) ++ varsT s.vars a.1 ∧ h' = (h.alloc (AOb.cells [Value.slice A s.vars.length ca, Value.slice B s.cells.length cb, Value.string s.out] Stat.solo h.n))) (fun a => s.vars.length - a.1) (0, vt (s.vars.length : Nat)) (by kernel_rfl) ⟨Nat.zero_le _, by rw [varsT_zero, app_empty], rfl⟩ ?_
    intro a g h1 hJ
    have hi := hJ.1
    have ha := hJ.2.1
    have hh := hJ.2.2
    clear hJ
    subst hh
    simp -implicitDefEqProofs only [push_cast, seval]
    with_reducible refine bcase_d (fun hb => ?_) (fun hb => ?_)
    · have hi' : a.1 < s.vars.length := by omega
      with_reducible refine hA.use big pb hi' (fun id off eA hlt hr => ?_)
      subst eA
      simp only [Var.enc] at hr
      have r0 := (rd_2 hr).1
      have r1 := (rd_2 hr).2
      have hq := varOk_size hok hi'
      have z1 := varsT_size hok a.1 hi
      have z2 := short_size s.vars[a.1].name (by omega)
      have z3 := short_size s.vars[a.1].val (by omega)
      have z4 : a.2.size = (vt (s.vars.length : Nat)).size + (varsT s.vars a.1).size := by rw [ha, ByteArray.size_append]
      simp -implicitDefEqProofs only [push_cast, seval]
      refine WC.draw' (by kernel_rfl) (by kernel_rfl) (.q 0 (.q 1 (.q 2 (.q 3 (.q 4 (.q 5 (.q 6 (.q 9 (.q 10 (.q 11 (.q 12 (.q 13 (.q 14 (.c 7 (.q 8 (.c 15 (.q 16 (.q 17 (.done))))))))))))))))))) (by kernel_rfl) ?_
      simp -implicitDefEqProofs only [push_cast, seval, hr, r0, r1, hlt]
      repeat' (first | with_reducible (first | exact Keep.refl _ _ | assumption | exact byte_lt _ _ | apply Keep.alloc | (refine Keep.set ?_ ?_; rotate_left; · omega) | apply Pre.alloc | apply Pre.set | exact Pre.refl _ | exact le_alloc _ | (refine Pre.keep ?_; assumption) | (refine Pre.n ?_; assumption)) | ((with_reducible (first | refine CD.to (l07Short_c _ ?_ _) ?_ | refine CQ.pure (fun _ => l07Short_c _ ?_ _) ?_ | refine bcase_d (fun hb => ?_) (fun hb => ?_) | refine bcase_mk (fun hb => ?_) (fun hb => ?_))) <;> try simp -implicitDefEqProofs only [push_cast, seval, hr, r0, r1, hlt, ByteArray.size_append]) | with_reducible refine And.intro ?_ ?_ | omega | (simp only [alloc_n, set_n, kill_n]; omega) | (exfalso; omega))
      rw [wrapSucc (by omega)]
      refine ⟨(a.1 + 1, a.2 ++ short s.vars[a.1].name ++ short s.vars[a.1].val), by kernel_rfl, ⟨by show a.1 + 1 ≤ s.vars.length; omega, ?_⟩, by show s.vars.length - (a.1 + 1) < s.vars.length - a.1; omega⟩
      show _ = vt (s.vars.length : Nat) ++ varsT s.vars (a.1 + 1)
      rw [varsT_succ hi', Var.txt, ha]
      simp only [ByteArray.append_assoc]
    · have hn : a.1 = s.vars.length := by omega
      rw [hn] at ha
      have z1 := varsT_size hok s.vars.length (Nat.le_refl _)
      have z4 : a.2.size = (vt (s.vars.length : Nat)).size + (varsT s.vars s.vars.length).size := by rw [ha, ByteArray.size_append]
      clear hi hb
      simp -implicitDefEqProofs only [push_cast, seval]
      with_reducible refine CD.to (l01Var_c _ (by omega) _) ?_
      simp -implicitDefEqProofs only [push_cast, seval]
      refine And.intro (by omega) ?_
      with_reducible refine nameB (a.2 ++ vt (s.cells.length : Nat)) (fun b0 hb0 => ?_)
      rw [← hb0]
      have zb : b0.size = a.2.size + (vt (s.cells.length : Nat)).size := by rw [hb0, ByteArray.size_append]
      refine WC.loopA (by kernel_rfl) [4, 6] [44, 45, 46, 47, 48, 49, 50, 51, 52, 53, 54, 55, 56, 57, 58, 59, 60, 61, 62, 63, 64, 65, 66, 67, 68, 69, 70, 71, 72, 73, 74, 75] (fun c : Nat × ByteArray => [.string c.2, .int .i64 (c.1 : Nat)]) (fun c h' => c.1 ≤ s.cells.length ∧ c.2 = b0 ++ cellsT s.cells c.1 ∧ h' = (h.alloc (AOb.cells [Value.slice A s.vars.length ca, Value.slice B s.cells.length cb, Value.string s.out] Stat.solo h.n))) (fun c => s.cells.length - c.1) (0, b0) (by kernel_rfl) ⟨Nat.zero_le _, by rw [cellsT_zero, app_empty], rfl⟩ ?_
      intro c g2 h2 hJ
      have hi := hJ.1
      have hc := hJ.2.1
      have hh := hJ.2.2
      clear hJ
      subst hh
      simp -implicitDefEqProofs only [push_cast, seval]
      with_reducible refine bcase_d (fun hb => ?_) (fun hb => ?_)
      · have hi' : c.1 < s.cells.length := by omega
        with_reducible refine hB.use big pb hi' (fun id off eA hlt hr => ?_)
        subst eA
        simp only [Cell.enc] at hr
        have r0 := (rd_3 hr).1
        have r1 := (rd_3 hr).2.1
        have r2 := (rd_3 hr).2.2
        have hq := cellOk_size hok hi'
        have y1 := cellsT_size hok c.1 hi
        have y2 := short_size s.cells[c.1].name (by omega)
        have y3 := short_size s.cells[c.1].key (by omega)
        have y5 := short_size s.cells[c.1].val (by omega)
        have y4 : c.2.size = b0.size + (cellsT s.cells c.1).size := by rw [hc, ByteArray.size_append]
        simp -implicitDefEqProofs only [push_cast, seval]
        refine WC.draw' (by kernel_rfl) (by kernel_rfl) (.q 0 (.q 1 (.q 2 (.q 3 (.q 4 (.q 5 (.q 6 (.q 9 (.q 10 (.q 11 (.q 12 (.q 13 (.q 14 (.q 17 (.q 18 (.q 19 (.q 20 (.q 21 (.q 22 (.c 7 (.q 8 (.c 15 (.q 16 (.c 23 (.q 24 (.q 25 (.done))))))))))))))))))))))))))) (by kernel_rfl) ?_
        simp -implicitDefEqProofs only [push_cast, seval, hr, r0, r1, r2, hlt]
        repeat' (first | with_reducible (first | exact Keep.refl _ _ | assumption | exact byte_lt _ _ | apply Keep.alloc | (refine Keep.set ?_ ?_; rotate_left; · omega) | apply Pre.alloc | apply Pre.set | exact Pre.refl _ | exact le_alloc _ | (refine Pre.keep ?_; assumption) | (refine Pre.n ?_; assumption)) | ((with_reducible (first | refine CD.to (l07Short_c _ ?_ _) ?_ | refine CQ.pure (fun _ => l07Short_c _ ?_ _) ?_ | refine bcase_d (fun hb => ?_) (fun hb => ?_) | refine bcase_mk (fun hb => ?_) (fun hb => ?_))) <;> try simp -implicitDefEqProofs only [push_cast, seval, hr, r0, r1, r2, hlt, ByteArray.size_append]) | with_reducible refine And.intro ?_ ?_ | omega | (simp only [alloc_n, set_n, kill_n]; omega) | (exfalso; omega))
        rw [wrapSucc (by omega)]
        refine ⟨(c.1 + 1, c.2 ++ short s.cells[c.1].name ++ short s.cells[c.1].key ++ short s.cells[c.1].val), by kernel_rfl, ⟨by show c.1 + 1 ≤ s.cells.length; omega, ?_⟩, by show s.cells.length - (c.1 + 1) < s.cells.length - c.1; omega⟩
        show _ = b0 ++ cellsT s.cells (c.1 + 1)
        rw [cellsT_succ hi', Cell.txt, hc]
        simp only [ByteArray.append_assoc]
      · have hn2 : c.1 = s.cells.length := by omega
        rw [hn2] at hc
        have y1 := cellsT_size hok s.cells.length (Nat.le_refl _)
        have y4 : c.2.size = b0.size + (cellsT s.cells s.cells.length).size := by rw [hc, ByteArray.size_append]
        have y2 := short_size s.out (by omega)
        simp -implicitDefEqProofs only [push_cast, seval]
        repeat' (first | with_reducible (first | exact Keep.refl _ _ | assumption | exact byte_lt _ _ | apply Keep.alloc | (refine Keep.set ?_ ?_; rotate_left; · omega) | apply Pre.alloc | apply Pre.set | exact Pre.refl _ | exact le_alloc _ | (refine Pre.keep ?_; assumption) | (refine Pre.n ?_; assumption)) | ((with_reducible (first | refine CD.to (l07Short_c _ ?_ _) ?_ | refine CQ.pure (fun _ => l07Short_c _ ?_ _) ?_ | refine bcase_d (fun hb => ?_) (fun hb => ?_) | refine bcase_mk (fun hb => ?_) (fun hb => ?_))) <;> try simp -implicitDefEqProofs only [push_cast, seval]) | with_reducible refine And.intro ?_ ?_ | omega | (simp only [alloc_n, set_n, kill_n]; omega) | (exfalso; omega))
        rw [storeT, hc, hb0, ha]
end Go.Proofs.Ytfbcedjheempfaa
