/- Parts of the proof of the row: the ground, contracts of the functions that it reaches (L9, L10, L11, L12, L13, L14, L15, L16, L17, L18, L19, SimO, L20). Conditions: those that each theorem names. -/
import Derived.Test.YtfbcedjheempfaaB3
namespace Go.Proofs.Ytfbcedjheempfaa
open Go Go.Sim Go.Proofs
set_option linter.unusedSimpArgs false
set_option linter.unusedVariables false
set_option maxRecDepth 100000
set_option maxHeartbeats 1000000
theorem isWorker_c (a : Int) (h : AH) : CD Try.prog 52 [.int .i64 a] h (.bool (inB a 1 3)) h := by
  refine CD.quiet ?_ (low_bool _ _)
  refine CC.ofN Try.func52 Try.ntmps52 Try.results52 rfl (by decide) (by kernel_rfl) ?_
  simp (maxSteps := 1000000) -implicitDefEqProofs only [push_cast, seval]
  repeat' (first | with_reducible (first | exact Keep.refl _ _ | assumption | exact byte_lt _ _ | apply Keep.alloc | (refine Keep.set ?_ ?_; rotate_left; · omega) | apply Pre.alloc | apply Pre.set | exact Pre.refl _ | exact le_alloc _ | (refine Pre.keep ?_; assumption) | (refine Pre.n ?_; assumption)) | ((with_reducible (first | refine CD.to (within_c _ _ _ _) ?_ | refine CQ.pure (fun _ => within_c _ _ _ _) ?_ | refine bcase_d (fun hb => ?_) (fun hb => ?_) | refine bcase_mk (fun hb => ?_) (fun hb => ?_))) <;> try simp (maxSteps := 1000000) -implicitDefEqProofs only [push_cast, seval]) | with_reducible refine And.intro ?_ ?_ | omega | (simp only [alloc_n, set_n, kill_n]; omega) | (exfalso; omega))
theorem MessageOk_i (m : Msg) (h : AH) : CD Try.prog 15 [m.v] h (.bool (msgOk m)) h := by
  refine CD.quiet ?_ (low_bool _ _)
  simp only [Msg.v]
  refine CC.ofN Try.func15 Try.ntmps15 Try.results15 rfl (by decide) (by kernel_rfl) ?_
  simp (maxSteps := 1000000) -implicitDefEqProofs only [push_cast, seval]
  repeat' (first | with_reducible (first | exact Keep.refl _ _ | assumption | exact byte_lt _ _ | apply Keep.alloc | (refine Keep.set ?_ ?_; rotate_left; · omega) | apply Pre.alloc | apply Pre.set | exact Pre.refl _ | exact le_alloc _ | (refine Pre.keep ?_; assumption) | (refine Pre.n ?_; assumption)) | ((with_reducible (first | refine CD.to (within_c _ _ _ _) ?_ | refine CQ.pure (fun _ => within_c _ _ _ _) ?_ | refine CD.to (isWorker_c _ _) ?_ | refine CQ.pure (fun _ => isWorker_c _ _) ?_ | refine bcase_d (fun hb => ?_) (fun hb => ?_) | refine bcase_mk (fun hb => ?_) (fun hb => ?_))) <;> try simp (maxSteps := 1000000) -implicitDefEqProofs only [push_cast, seval]) | with_reducible refine And.intro ?_ ?_ | omega | (simp only [alloc_n, set_n, kill_n]; omega) | (exfalso; omega))
  all_goals (refine congrArg Value.bool ?_; simp only [msgOk]; grind)
theorem MessageOk_s (m : Msg) (h : AH) : CD Try.prog 13 [m.v] h (.bool (msgOk m)) h := by
  refine CD.quiet ?_ (low_bool _ _)
  simp only [Msg.v]
  refine CC.ofN Try.func13 Try.ntmps13 Try.results13 rfl (by decide) (by kernel_rfl) ?_
  simp (maxSteps := 1000000) -implicitDefEqProofs only [push_cast, seval]
  repeat' (first | with_reducible (first | exact Keep.refl _ _ | assumption | exact byte_lt _ _ | apply Keep.alloc | (refine Keep.set ?_ ?_; rotate_left; · omega) | apply Pre.alloc | apply Pre.set | exact Pre.refl _ | exact le_alloc _ | (refine Pre.keep ?_; assumption) | (refine Pre.n ?_; assumption)) | ((with_reducible (first | refine CD.to (l01In_c _ _ _ _) ?_ | refine CQ.pure (fun _ => l01In_c _ _ _ _) ?_ | refine bcase_d (fun hb => ?_) (fun hb => ?_) | refine bcase_mk (fun hb => ?_) (fun hb => ?_))) <;> try simp (maxSteps := 1000000) -implicitDefEqProofs only [push_cast, seval]) | with_reducible refine And.intro ?_ ?_ | omega | (simp only [alloc_n, set_n, kill_n]; omega) | (exfalso; omega))
  all_goals (refine congrArg Value.bool ?_; simp only [msgOk]; grind)
theorem MessageText_i (m : Msg) (h : AH) : CD Try.prog 21 [m.v] h (.tuple #[.string (msgText m), .bool (msgOk m)]) h := by
  refine CD.quiet ?_ (low_tuple (by simp [low_string, low_bool]))
  have hm := maxLen_eq
  cases hok : msgOk m with
  | false =>
    have e0 : msgText m = ⟨#[]⟩ := by simp [msgText, hok]
    have hc : ∀ h', CD Try.prog 13 [.agg #[.int .i64 m.kind, .int .i64 m.worker, .int .i64 m.task, .int .i64 m.try_, .string m.body]] h' (.bool (msgOk m)) h' := fun h' => MessageOk_s m h'
    have hc' : ∀ h', CD Try.prog 15 [.agg #[.int .i64 m.kind, .int .i64 m.worker, .int .i64 m.task, .int .i64 m.try_, .string m.body]] h' (.bool (msgOk m)) h' := fun h' => MessageOk_i m h'
    simp only [Msg.v, e0]
    refine CC.ofN Try.func21 Try.ntmps21 Try.results21 rfl (by decide) (by kernel_rfl) ?_
    simp (maxSteps := 1000000) -implicitDefEqProofs only [push_cast, seval]
    repeat' (first | with_reducible (first | exact Keep.refl _ _ | assumption | exact byte_lt _ _ | apply Keep.alloc | (refine Keep.set ?_ ?_; rotate_left; · omega) | apply Pre.alloc | apply Pre.set | exact Pre.refl _ | exact le_alloc _ | (refine Pre.keep ?_; assumption) | (refine Pre.n ?_; assumption)) | ((with_reducible (first | refine CD.to (hc _) ?_ | refine CQ.pure (fun _ => hc _) ?_ | refine CD.to (hc' _) ?_ | refine CQ.pure (fun _ => hc' _) ?_ | refine bcase_d (fun hb => ?_) (fun hb => ?_) | refine bcase_mk (fun hb => ?_) (fun hb => ?_))) <;> try simp (maxSteps := 1000000) -implicitDefEqProofs only [push_cast, seval, hok]) | with_reducible refine And.intro ?_ ?_ | omega | (simp only [alloc_n, set_n, kill_n]; omega) | (exfalso; omega))
  | true =>
    obtain ⟨hk, hw, ht, hy, hb⟩ := msgOk_ m hok
    have z1 := vt_size (n := m.task) (by omega)
    have z2 := vt_size (n := m.try_) (by omega)
    have z0 : (⟨#[UInt8.ofNat (IntKind.u8.wrap m.kind).toNat, UInt8.ofNat (IntKind.u8.wrap m.worker).toNat]⟩ : ByteArray).size = 2 := rfl
    have zz := msgBytes_size m hok
    have e0 : msgText m = sealT (msgBytes m) := by simp [msgText, hok]
    have hc : ∀ h', CD Try.prog 13 [.agg #[.int .i64 m.kind, .int .i64 m.worker, .int .i64 m.task, .int .i64 m.try_, .string m.body]] h' (.bool (msgOk m)) h' := fun h' => MessageOk_s m h'
    have hc' : ∀ h', CD Try.prog 15 [.agg #[.int .i64 m.kind, .int .i64 m.worker, .int .i64 m.task, .int .i64 m.try_, .string m.body]] h' (.bool (msgOk m)) h' := fun h' => MessageOk_i m h'
    simp only [Msg.v, e0]
    refine CC.ofN Try.func21 Try.ntmps21 Try.results21 rfl (by decide) (by kernel_rfl) ?_
    simp (maxSteps := 1000000) -implicitDefEqProofs only [push_cast, seval]
    repeat' (first | with_reducible (first | exact Keep.refl _ _ | assumption | exact byte_lt _ _ | apply Keep.alloc | (refine Keep.set ?_ ?_; rotate_left; · omega) | apply Pre.alloc | apply Pre.set | exact Pre.refl _ | exact le_alloc _ | (refine Pre.keep ?_; assumption) | (refine Pre.n ?_; assumption)) | ((with_reducible (first | refine CD.to (hc _) ?_ | refine CQ.pure (fun _ => hc _) ?_ | refine CD.to (hc' _) ?_ | refine CQ.pure (fun _ => hc' _) ?_ | refine bcase_d (fun hb => ?_) (fun hb => ?_) | refine bcase_mk (fun hb => ?_) (fun hb => ?_))) <;> try simp (maxSteps := 1000000) -implicitDefEqProofs only [push_cast, seval, hok]) | with_reducible refine And.intro ?_ ?_ | omega | (simp only [alloc_n, set_n, kill_n]; omega) | (exfalso; omega))
    refine WC.draw' (by kernel_rfl) (by kernel_rfl) (.q 0 (.q 1 (.q 2 (.q 3 (.q 4 (.q 5 (.q 8 (.q 9 (.q 12 (.q 13 (.q 16 (.q 17 (.c 10 (.c 14 (.a 6 false (.q 7 (.q 11 (.q 15 (.q 18 (.c 19 (.q 20 (.q 21 (.q 22 (.q 23 (.done))))))))))))))))))))))))) (by kernel_rfl) ?_
    simp (maxSteps := 1000000) -implicitDefEqProofs only [push_cast, seval]
    repeat' (first | with_reducible (first | exact Keep.refl _ _ | assumption | exact byte_lt _ _ | apply Keep.alloc | (refine Keep.set ?_ ?_; rotate_left; · omega) | apply Pre.alloc | apply Pre.set | exact Pre.refl _ | exact le_alloc _ | (refine Pre.keep ?_; assumption) | (refine Pre.n ?_; assumption)) | ((with_reducible (first | refine CD.to (numberText_c _ ?_ _) ?_ | refine CQ.pure (fun _ => numberText_c _ ?_ _) ?_ | refine CD.to (Sealed_i _ ?_ _) ?_ | refine CQ.pure (fun _ => Sealed_i _ ?_ _) ?_ | refine bcase_d (fun hb => ?_) (fun hb => ?_) | refine bcase_mk (fun hb => ?_) (fun hb => ?_))) <;> try simp (maxSteps := 1000000) -implicitDefEqProofs only [push_cast, seval, z0, ByteArray.size_append]) | with_reducible refine And.intro ?_ ?_ | omega | (simp only [alloc_n, set_n, kill_n]; omega) | (exfalso; omega))
    rw [if_pos (by omega), decide_eq_true (by omega)]; rfl
theorem MessageText_s (m : Msg) (h : AH) : CD Try.prog 20 [m.v] h (.tuple #[.string (msgText m), .bool (msgOk m)]) h := by
  refine CD.quiet ?_ (low_tuple (by simp [low_string, low_bool]))
  have hm := maxLen_eq
  cases hok : msgOk m with
  | false =>
    have e0 : msgText m = ⟨#[]⟩ := by simp [msgText, hok]
    have hc : ∀ h', CD Try.prog 13 [.agg #[.int .i64 m.kind, .int .i64 m.worker, .int .i64 m.task, .int .i64 m.try_, .string m.body]] h' (.bool (msgOk m)) h' := fun h' => MessageOk_s m h'
    have hc' : ∀ h', CD Try.prog 15 [.agg #[.int .i64 m.kind, .int .i64 m.worker, .int .i64 m.task, .int .i64 m.try_, .string m.body]] h' (.bool (msgOk m)) h' := fun h' => MessageOk_i m h'
    simp only [Msg.v, e0]
    refine CC.ofN Try.func20 Try.ntmps20 Try.results20 rfl (by decide) (by kernel_rfl) ?_
    simp (maxSteps := 1000000) -implicitDefEqProofs only [push_cast, seval]
    repeat' (first | with_reducible (first | exact Keep.refl _ _ | assumption | exact byte_lt _ _ | apply Keep.alloc | (refine Keep.set ?_ ?_; rotate_left; · omega) | apply Pre.alloc | apply Pre.set | exact Pre.refl _ | exact le_alloc _ | (refine Pre.keep ?_; assumption) | (refine Pre.n ?_; assumption)) | ((with_reducible (first | refine CD.to (hc _) ?_ | refine CQ.pure (fun _ => hc _) ?_ | refine CD.to (hc' _) ?_ | refine CQ.pure (fun _ => hc' _) ?_ | refine bcase_d (fun hb => ?_) (fun hb => ?_) | refine bcase_mk (fun hb => ?_) (fun hb => ?_))) <;> try simp (maxSteps := 1000000) -implicitDefEqProofs only [push_cast, seval, hok]) | with_reducible refine And.intro ?_ ?_ | omega | (simp only [alloc_n, set_n, kill_n]; omega) | (exfalso; omega))
  | true =>
    obtain ⟨hk, hw, ht, hy, hb⟩ := msgOk_ m hok
    have z1 := vt_size (n := m.task) (by omega)
    have z2 := vt_size (n := m.try_) (by omega)
    have z0 : (⟨#[UInt8.ofNat (IntKind.u8.wrap m.kind).toNat, UInt8.ofNat (IntKind.u8.wrap m.worker).toNat]⟩ : ByteArray).size = 2 := rfl
    have zz := msgBytes_size m hok
    have e0 : msgText m = sealT (msgBytes m) := by simp [msgText, hok]
    have hc : ∀ h', CD Try.prog 13 [.agg #[.int .i64 m.kind, .int .i64 m.worker, .int .i64 m.task, .int .i64 m.try_, .string m.body]] h' (.bool (msgOk m)) h' := fun h' => MessageOk_s m h'
    have hc' : ∀ h', CD Try.prog 15 [.agg #[.int .i64 m.kind, .int .i64 m.worker, .int .i64 m.task, .int .i64 m.try_, .string m.body]] h' (.bool (msgOk m)) h' := fun h' => MessageOk_i m h'
    simp only [Msg.v, e0]
    refine CC.ofN Try.func20 Try.ntmps20 Try.results20 rfl (by decide) (by kernel_rfl) ?_
    simp (maxSteps := 1000000) -implicitDefEqProofs only [push_cast, seval]
    repeat' (first | with_reducible (first | exact Keep.refl _ _ | assumption | exact byte_lt _ _ | apply Keep.alloc | (refine Keep.set ?_ ?_; rotate_left; · omega) | apply Pre.alloc | apply Pre.set | exact Pre.refl _ | exact le_alloc _ | (refine Pre.keep ?_; assumption) | (refine Pre.n ?_; assumption)) | ((with_reducible (first | refine CD.to (hc _) ?_ | refine CQ.pure (fun _ => hc _) ?_ | refine CD.to (hc' _) ?_ | refine CQ.pure (fun _ => hc' _) ?_ | refine bcase_d (fun hb => ?_) (fun hb => ?_) | refine bcase_mk (fun hb => ?_) (fun hb => ?_))) <;> try simp (maxSteps := 1000000) -implicitDefEqProofs only [push_cast, seval, hok]) | with_reducible refine And.intro ?_ ?_ | omega | (simp only [alloc_n, set_n, kill_n]; omega) | (exfalso; omega))
    refine WC.draw' (by kernel_rfl) (by kernel_rfl) (.q 0 (.q 1 (.q 2 (.q 3 (.q 4 (.q 5 (.q 8 (.q 9 (.q 12 (.q 13 (.q 16 (.q 17 (.c 10 (.c 14 (.a 6 false (.q 7 (.q 11 (.q 15 (.q 18 (.c 19 (.q 20 (.q 21 (.q 22 (.q 23 (.done))))))))))))))))))))))))) (by kernel_rfl) ?_
    simp (maxSteps := 1000000) -implicitDefEqProofs only [push_cast, seval]
    repeat' (first | with_reducible (first | exact Keep.refl _ _ | assumption | exact byte_lt _ _ | apply Keep.alloc | (refine Keep.set ?_ ?_; rotate_left; · omega) | apply Pre.alloc | apply Pre.set | exact Pre.refl _ | exact le_alloc _ | (refine Pre.keep ?_; assumption) | (refine Pre.n ?_; assumption)) | ((with_reducible (first | refine CD.to (l01Var_c _ ?_ _) ?_ | refine CQ.pure (fun _ => l01Var_c _ ?_ _) ?_ | refine CD.to (Sealed_s _ ?_ _) ?_ | refine CQ.pure (fun _ => Sealed_s _ ?_ _) ?_ | refine bcase_d (fun hb => ?_) (fun hb => ?_) | refine bcase_mk (fun hb => ?_) (fun hb => ?_))) <;> try simp (maxSteps := 1000000) -implicitDefEqProofs only [push_cast, seval, z0, ByteArray.size_append]) | with_reducible refine And.intro ?_ ?_ | omega | (simp only [alloc_n, set_n, kill_n]; omega) | (exfalso; omega))
    rw [if_pos (by omega), decide_eq_true (by omega)]; rfl
theorem Unsealed_i (t : ByteArray) (hs : t.size ≤ maxLen) (h : AH) : CD Try.prog 66 [.string t] h (.tuple #[.string ((unsealT t).getD ⟨#[]⟩), .bool (unsealT t).isSome]) h := by
  refine CD.quiet ?_ (low_tuple (by simp [low_string, low_bool]))
  have hm := maxLen_eq
  have w1 : IntKind.i64.wrap ((t.size : Int) - 4) = (t.size : Int) - 4 := by rw [w64 (by omega) (by omega)]
  by_cases h4 : t.size < 4
  · have e : unsealT t = none := by simp [unsealT, h4]
    rw [e]
    refine CC.ofN Try.func66 Try.ntmps66 Try.results66 rfl (by decide) (by kernel_rfl) ?_
    simp (maxSteps := 1000000) -implicitDefEqProofs only [push_cast, seval]
    repeat' (first | with_reducible (first | exact Keep.refl _ _ | assumption | exact byte_lt _ _ | apply Keep.alloc | (refine Keep.set ?_ ?_; rotate_left; · omega) | apply Pre.alloc | apply Pre.set | exact Pre.refl _ | exact le_alloc _ | (refine Pre.keep ?_; assumption) | (refine Pre.n ?_; assumption)) | ((with_reducible (first | refine bcase_d (fun hb => ?_) (fun hb => ?_) | refine bcase_mk (fun hb => ?_) (fun hb => ?_))) <;> try simp (maxSteps := 1000000) -implicitDefEqProofs only [push_cast, seval, w1]) | with_reducible refine And.intro ?_ ?_ | omega | (simp only [alloc_n, set_n, kill_n]; omega) | (exfalso; omega))
    all_goals rfl
  · have e : unsealT t = if t.size - 4 ≤ 20000 ∧ sealT (t.extract 0 (t.size - 4)) = t then some (t.extract 0 (t.size - 4)) else none := by rw [unsealT, if_neg h4]
    have ez : (t.extract 0 (t.size - 4)).size = t.size - 4 := by simp only [ByteArray.size_extract]; omega
    have en : ((t.size : Int) - 4).toNat = t.size - 4 := by omega
    rw [e]
    refine CC.ofN Try.func66 Try.ntmps66 Try.results66 rfl (by decide) (by kernel_rfl) ?_
    simp (maxSteps := 1000000) -implicitDefEqProofs only [push_cast, seval]
    repeat' (first | with_reducible (first | exact Keep.refl _ _ | assumption | exact byte_lt _ _ | apply Keep.alloc | (refine Keep.set ?_ ?_; rotate_left; · omega) | apply Pre.alloc | apply Pre.set | exact Pre.refl _ | exact le_alloc _ | (refine Pre.keep ?_; assumption) | (refine Pre.n ?_; assumption)) | ((with_reducible (first | refine CD.to (Sealed_i _ ?_ _) ?_ | refine CQ.pure (fun _ => Sealed_i _ ?_ _) ?_ | refine bcase_d (fun hb => ?_) (fun hb => ?_) | refine bcase_mk (fun hb => ?_) (fun hb => ?_))) <;> try simp (maxSteps := 1000000) -implicitDefEqProofs only [push_cast, seval, w1, en, ez]) | with_reducible refine And.intro ?_ ?_ | omega | (simp only [alloc_n, set_n, kill_n]; omega) | (exfalso; omega))
    all_goals grind
theorem Unsealed_s (t : ByteArray) (hs : t.size ≤ maxLen) (h : AH) : CD Try.prog 64 [.string t] h (.tuple #[.string ((unsealT t).getD ⟨#[]⟩), .bool (unsealT t).isSome]) h := by
  refine CD.quiet ?_ (low_tuple (by simp [low_string, low_bool]))
  have hm := maxLen_eq
  have w1 : IntKind.i64.wrap ((t.size : Int) - 4) = (t.size : Int) - 4 := by rw [w64 (by omega) (by omega)]
  by_cases h4 : t.size < 4
  · have e : unsealT t = none := by simp [unsealT, h4]
    rw [e]
    refine CC.ofN Try.func64 Try.ntmps64 Try.results64 rfl (by decide) (by kernel_rfl) ?_
    simp (maxSteps := 1000000) -implicitDefEqProofs only [push_cast, seval, w1]
    refine WC.draw' (by kernel_rfl) (by kernel_rfl) (.q 0 (.q 1 (.q 2 (.q 3 (.q 4 (.q 5 (.q 6 (.q 7 (.q 8 (.q 9 (.q 10 (.q 11 (.q 12 (.c 13 (.c 14 (.q 15 (.q 16 (.done)))))))))))))))))) (by kernel_rfl) ?_
    simp (maxSteps := 1000000) -implicitDefEqProofs only [push_cast, seval]
    repeat' (first | with_reducible (first | exact Keep.refl _ _ | assumption | exact byte_lt _ _ | apply Keep.alloc | (refine Keep.set ?_ ?_; rotate_left; · omega) | apply Pre.alloc | apply Pre.set | exact Pre.refl _ | exact le_alloc _ | (refine Pre.keep ?_; assumption) | (refine Pre.n ?_; assumption)) | ((with_reducible (first | refine bcase_d (fun hb => ?_) (fun hb => ?_) | refine bcase_mk (fun hb => ?_) (fun hb => ?_))) <;> try simp (maxSteps := 1000000) -implicitDefEqProofs only [push_cast, seval, w1]) | with_reducible refine And.intro ?_ ?_ | omega | (simp only [alloc_n, set_n, kill_n]; omega) | (exfalso; omega))
    all_goals rfl
  · have e : unsealT t = if t.size - 4 ≤ 20000 ∧ sealT (t.extract 0 (t.size - 4)) = t then some (t.extract 0 (t.size - 4)) else none := by rw [unsealT, if_neg h4]
    simp only [seal_iff h4] at e
    have ez : (t.extract 0 (t.size - 4)).size = t.size - 4 := by simp only [ByteArray.size_extract]; omega
    have en : ((t.size : Int) - 4).toNat = t.size - 4 := by omega
    have hu := crc_u32 (t.extract 0 (t.size - 4))
    rw [e]
    refine CC.ofN Try.func64 Try.ntmps64 Try.results64 rfl (by decide) (by kernel_rfl) ?_
    simp (maxSteps := 1000000) -implicitDefEqProofs only [push_cast, seval, w1]
    refine WC.draw' (by kernel_rfl) (by kernel_rfl) (.q 0 (.q 1 (.q 2 (.q 3 (.q 4 (.q 5 (.q 6 (.q 7 (.q 8 (.q 9 (.q 10 (.q 11 (.q 12 (.c 13 (.c 14 (.q 15 (.q 16 (.done)))))))))))))))))) (by kernel_rfl) ?_
    simp (maxSteps := 1000000) -implicitDefEqProofs only [push_cast, seval]
    repeat' (first | with_reducible (first | exact Keep.refl _ _ | assumption | exact byte_lt _ _ | apply Keep.alloc | (refine Keep.set ?_ ?_; rotate_left; · omega) | apply Pre.alloc | apply Pre.set | exact Pre.refl _ | exact le_alloc _ | (refine Pre.keep ?_; assumption) | (refine Pre.n ?_; assumption)) | ((with_reducible (first | refine CD.to (SumOf_s _ ?_ _) ?_ | refine CQ.pure (fun _ => SumOf_s _ ?_ _) ?_ | refine CD.to (Four_s _ ?_ _) ?_ | refine CQ.pure (fun _ => Four_s _ ?_ _) ?_ | refine bcase_d (fun hb => ?_) (fun hb => ?_) | refine bcase_mk (fun hb => ?_) (fun hb => ?_))) <;> try simp (maxSteps := 1000000) -implicitDefEqProofs only [push_cast, seval, w1, en, ez]) | with_reducible refine And.intro ?_ ?_ | omega | (simp only [alloc_n, set_n, kill_n]; omega) | (exfalso; omega))
    all_goals grind
end Go.Proofs.Ytfbcedjheempfaa
namespace Go.Proofs.Ytfbcedjheempfaa
open Go Go.Sim Go.Proofs
set_option linter.unusedSimpArgs false
set_option linter.unusedVariables false
set_option maxRecDepth 100000
set_option maxHeartbeats 1000000
theorem one_bad (p : Nat) (s : ByteArray) (a : Nat) (hs : s.size ≤ maxLen - 16) (h : AH) (e : h.ob p = rdOb p s a true) :
    CD Try.prog 67 [.pointer (some ⟨p, 0, none⟩)] h (.int .i64 0) (h.set p (rdOb p s a true)) := by
  have := one_c p s a true hs h e
  simpa using this
theorem one_ok (p : Nat) (s : ByteArray) (a : Nat) (hs : s.size ≤ maxLen - 16) (ha : a < s.size) (h : AH) (e : h.ob p = rdOb p s a false) :
    CD Try.prog 67 [.pointer (some ⟨p, 0, none⟩)] h (.int .i64 (bN s a : Nat)) (h.set p (rdOb p s (a + 1) false)) := by
  have := one_c p s a false hs h e
  simpa [ha] using this
theorem one_end (p : Nat) (s : ByteArray) (a : Nat) (hs : s.size ≤ maxLen - 16) (ha : ¬ a < s.size) (h : AH) (e : h.ob p = rdOb p s a false) :
    CD Try.prog 67 [.pointer (some ⟨p, 0, none⟩)] h (.int .i64 0) (h.set p (rdOb p s a true)) := by
  have := one_c p s a false hs h e
  simpa [ha] using this
theorem number_bad (p : Nat) (s : ByteArray) (a : Nat) (hs : s.size ≤ maxLen - 16) (h : AH) (e : h.ob p = rdOb p s a true) :
    CD Try.prog 68 [.pointer (some ⟨p, 0, none⟩)] h (.int .i64 0) (h.set p (rdOb p s a true)) := by
  have := number_c p s a true hs h e
  simpa [oN, nxN] using this
theorem number_none (p : Nat) (s : ByteArray) (a : Nat) (hs : s.size ≤ maxLen - 16) (h : AH) (hr : rv s a = none) (e : h.ob p = rdOb p s a false) :
    CD Try.prog 68 [.pointer (some ⟨p, 0, none⟩)] h (.int .i64 0) (h.set p (rdOb p s a true)) := by
  have := number_c p s a false hs h e
  simpa [oN, nxN, hr] using this
theorem number_some (p : Nat) (s : ByteArray) (a : Nat) (q : Nat × Nat) (hs : s.size ≤ maxLen - 16) (h : AH) (hr : rv s a = some q) (e : h.ob p = rdOb p s a false) :
    CD Try.prog 68 [.pointer (some ⟨p, 0, none⟩)] h (.int .i64 (q.1 : Nat)) (h.set p (rdOb p s q.2 false)) := by
  have := number_c p s a false hs h e
  simpa [oN, nxN, hr] using this
theorem l07Var_bad (p : Nat) (s : ByteArray) (a : Nat) (hs : s.size ≤ maxLen - 16) (h : AH) (e : h.ob p = rdOb p s a true) :
    CD Try.prog 65 [.pointer (some ⟨p, 0, none⟩)] h (.int .i64 0) (h.set p (rdOb p s a true)) := by
  have := l07Var_c p s a true hs h e
  simpa [oN, nxN] using this
theorem l07Var_none (p : Nat) (s : ByteArray) (a : Nat) (hs : s.size ≤ maxLen - 16) (h : AH) (hr : rv s a = none) (e : h.ob p = rdOb p s a false) :
    CD Try.prog 65 [.pointer (some ⟨p, 0, none⟩)] h (.int .i64 0) (h.set p (rdOb p s a true)) := by
  have := l07Var_c p s a false hs h e
  simpa [oN, nxN, hr] using this
theorem l07Var_some (p : Nat) (s : ByteArray) (a : Nat) (q : Nat × Nat) (hs : s.size ≤ maxLen - 16) (h : AH) (hr : rv s a = some q) (e : h.ob p = rdOb p s a false) :
    CD Try.prog 65 [.pointer (some ⟨p, 0, none⟩)] h (.int .i64 (q.1 : Nat)) (h.set p (rdOb p s q.2 false)) := by
  have := l07Var_c p s a false hs h e
  simpa [oN, nxN, hr] using this
def msgR (r : Option Msg) : Value := .tuple #[(r.getD msg0).v, .bool r.isSome]
theorem ReadMessage_i (t : ByteArray) (hs : t.size ≤ maxLen - 16) (h : AH) : CD Try.prog 31 [.string t] h (.tuple #[((readMsg t).getD msg0).v, .bool (readMsg t).isSome]) h := by
  refine CD.quiet ?_ (low_tuple (by simp [low_bool]; exact low_agg (by simp [low_int, low_string])))
  have hm := maxLen_eq
  have hU := Unsealed_i t (by omega)
  rcases hu : unsealT t with _ | s
  · have e0 : readMsg t = none := by simp [readMsg, hu]
    rw [hu] at hU
    have hz : (⟨#[]⟩ : ByteArray).size ≤ maxLen - 16 := by show 0 ≤ _; omega
    rw [e0]
    simp only [Option.getD_none, Option.isSome_none, Msg.v, msg0] at hU ⊢
    refine CC.ofN Try.func31 Try.ntmps31 Try.results31 rfl (by decide) (by kernel_rfl) ?_
    simp (maxSteps := 1000000) -implicitDefEqProofs only [push_cast, seval]
    repeat' (first | with_reducible (first | exact Keep.refl _ _ | assumption | exact byte_lt _ _ | apply Keep.alloc | (refine Keep.set ?_ ?_; rotate_left; · omega) | apply Pre.alloc | apply Pre.set | exact Pre.refl _ | exact le_alloc _ | (refine Pre.keep ?_; assumption) | (refine Pre.n ?_; assumption)) | ((with_reducible (first | refine CD.to (hU _) ?_ | refine CQ.pure (fun _ => hU _) ?_ | refine bcase_d (fun hb => ?_) (fun hb => ?_) | refine bcase_mk (fun hb => ?_) (fun hb => ?_))) <;> try simp (maxSteps := 1000000) -implicitDefEqProofs only [push_cast, seval]) | with_reducible refine And.intro ?_ ?_ | omega | (simp only [alloc_n, set_n, kill_n]; omega) | (exfalso; omega))
    with_reducible refine CD.to (one_bad _ _ 0 hz _ (by (try simp (maxSteps := 1000000) -implicitDefEqProofs only [push_cast, seval, rdOb]); try rfl)) ?_
    simp (maxSteps := 1000000) -implicitDefEqProofs only [push_cast, seval, rdOb]
    with_reducible refine CD.to (one_bad _ _ 0 hz _ (by (try simp (maxSteps := 1000000) -implicitDefEqProofs only [push_cast, seval, rdOb]); try rfl)) ?_
    simp (maxSteps := 1000000) -implicitDefEqProofs only [push_cast, seval, rdOb]
    with_reducible refine CD.to (number_bad _ _ 0 hz _ (by (try simp (maxSteps := 1000000) -implicitDefEqProofs only [push_cast, seval, rdOb]); try rfl)) ?_
    simp (maxSteps := 1000000) -implicitDefEqProofs only [push_cast, seval, rdOb]
    with_reducible refine CD.to (number_bad _ _ 0 hz _ (by (try simp (maxSteps := 1000000) -implicitDefEqProofs only [push_cast, seval, rdOb]); try rfl)) ?_
    simp (maxSteps := 1000000) -implicitDefEqProofs only [push_cast, seval, rdOb]
    repeat' (first | with_reducible (first | exact Keep.refl _ _ | assumption | exact byte_lt _ _ | apply Keep.alloc | (refine Keep.set ?_ ?_; rotate_left; · omega) | apply Pre.alloc | apply Pre.set | exact Pre.refl _ | exact le_alloc _ | (refine Pre.keep ?_; assumption) | (refine Pre.n ?_; assumption)) | ((with_reducible (first | refine bcase_d (fun hb => ?_) (fun hb => ?_) | refine bcase_mk (fun hb => ?_) (fun hb => ?_))) <;> try simp (maxSteps := 1000000) -implicitDefEqProofs only [push_cast, seval]) | with_reducible refine And.intro ?_ ?_ | omega | (simp only [alloc_n, set_n, kill_n]; omega) | (exfalso; omega))
  · rw [hu] at hU
    have hz0 := (unsealT_some hu).2
    have hz : s.size ≤ maxLen - 16 := by omega
    simp only [Option.getD_some, Option.isSome_some] at hU
    by_cases h0 : s.size = 0
    · have e0 : readMsg t = none := by simp [readMsg, hu, h0]
      rw [e0]
      simp only [Option.getD_none, Option.isSome_none, Msg.v, msg0]
      refine CC.ofN Try.func31 Try.ntmps31 Try.results31 rfl (by decide) (by kernel_rfl) ?_
      simp (maxSteps := 1000000) -implicitDefEqProofs only [push_cast, seval]
      repeat' (first | with_reducible (first | exact Keep.refl _ _ | assumption | exact byte_lt _ _ | apply Keep.alloc | (refine Keep.set ?_ ?_; rotate_left; · omega) | apply Pre.alloc | apply Pre.set | exact Pre.refl _ | exact le_alloc _ | (refine Pre.keep ?_; assumption) | (refine Pre.n ?_; assumption)) | ((with_reducible (first | refine CD.to (hU _) ?_ | refine CQ.pure (fun _ => hU _) ?_ | refine bcase_d (fun hb => ?_) (fun hb => ?_) | refine bcase_mk (fun hb => ?_) (fun hb => ?_))) <;> try simp (maxSteps := 1000000) -implicitDefEqProofs only [push_cast, seval]) | with_reducible refine And.intro ?_ ?_ | omega | (simp only [alloc_n, set_n, kill_n]; omega) | (exfalso; omega))
      with_reducible refine CD.to (one_end _ _ 0 hz (by omega) _ (by (try simp (maxSteps := 1000000) -implicitDefEqProofs only [push_cast, seval, rdOb]); try rfl)) ?_
      simp (maxSteps := 1000000) -implicitDefEqProofs only [push_cast, seval, rdOb]
      with_reducible refine CD.to (one_bad _ _ 0 hz _ (by (try simp (maxSteps := 1000000) -implicitDefEqProofs only [push_cast, seval, rdOb]); try rfl)) ?_
      simp (maxSteps := 1000000) -implicitDefEqProofs only [push_cast, seval, rdOb]
      with_reducible refine CD.to (number_bad _ _ 0 hz _ (by (try simp (maxSteps := 1000000) -implicitDefEqProofs only [push_cast, seval, rdOb]); try rfl)) ?_
      simp (maxSteps := 1000000) -implicitDefEqProofs only [push_cast, seval, rdOb]
      with_reducible refine CD.to (number_bad _ _ 0 hz _ (by (try simp (maxSteps := 1000000) -implicitDefEqProofs only [push_cast, seval, rdOb]); try rfl)) ?_
      simp (maxSteps := 1000000) -implicitDefEqProofs only [push_cast, seval, rdOb]
      repeat' (first | with_reducible (first | exact Keep.refl _ _ | assumption | exact byte_lt _ _ | apply Keep.alloc | (refine Keep.set ?_ ?_; rotate_left; · omega) | apply Pre.alloc | apply Pre.set | exact Pre.refl _ | exact le_alloc _ | (refine Pre.keep ?_; assumption) | (refine Pre.n ?_; assumption)) | ((with_reducible (first | refine bcase_d (fun hb => ?_) (fun hb => ?_) | refine bcase_mk (fun hb => ?_) (fun hb => ?_))) <;> try simp (maxSteps := 1000000) -implicitDefEqProofs only [push_cast, seval]) | with_reducible refine And.intro ?_ ?_ | omega | (simp only [alloc_n, set_n, kill_n]; omega) | (exfalso; omega))
    by_cases h1 : s.size = 1
    · have e0 : readMsg t = none := by simp [readMsg, hu, h1]
      rw [e0]
      simp only [Option.getD_none, Option.isSome_none, Msg.v, msg0]
      refine CC.ofN Try.func31 Try.ntmps31 Try.results31 rfl (by decide) (by kernel_rfl) ?_
      simp (maxSteps := 1000000) -implicitDefEqProofs only [push_cast, seval]
      repeat' (first | with_reducible (first | exact Keep.refl _ _ | assumption | exact byte_lt _ _ | apply Keep.alloc | (refine Keep.set ?_ ?_; rotate_left; · omega) | apply Pre.alloc | apply Pre.set | exact Pre.refl _ | exact le_alloc _ | (refine Pre.keep ?_; assumption) | (refine Pre.n ?_; assumption)) | ((with_reducible (first | refine CD.to (hU _) ?_ | refine CQ.pure (fun _ => hU _) ?_ | refine bcase_d (fun hb => ?_) (fun hb => ?_) | refine bcase_mk (fun hb => ?_) (fun hb => ?_))) <;> try simp (maxSteps := 1000000) -implicitDefEqProofs only [push_cast, seval]) | with_reducible refine And.intro ?_ ?_ | omega | (simp only [alloc_n, set_n, kill_n]; omega) | (exfalso; omega))
      with_reducible refine CD.to (one_ok _ _ 0 hz (by omega) _ (by (try simp (maxSteps := 1000000) -implicitDefEqProofs only [push_cast, seval, rdOb]); try rfl)) ?_
      simp (maxSteps := 1000000) -implicitDefEqProofs only [push_cast, seval, rdOb]
      with_reducible refine CD.to (one_end _ _ 1 hz (by omega) _ (by (try simp (maxSteps := 1000000) -implicitDefEqProofs only [push_cast, seval, rdOb]); try rfl)) ?_
      simp (maxSteps := 1000000) -implicitDefEqProofs only [push_cast, seval, rdOb]
      with_reducible refine CD.to (number_bad _ _ 1 hz _ (by (try simp (maxSteps := 1000000) -implicitDefEqProofs only [push_cast, seval, rdOb]); try rfl)) ?_
      simp (maxSteps := 1000000) -implicitDefEqProofs only [push_cast, seval, rdOb]
      with_reducible refine CD.to (number_bad _ _ 1 hz _ (by (try simp (maxSteps := 1000000) -implicitDefEqProofs only [push_cast, seval, rdOb]); try rfl)) ?_
      simp (maxSteps := 1000000) -implicitDefEqProofs only [push_cast, seval, rdOb]
      repeat' (first | with_reducible (first | exact Keep.refl _ _ | assumption | exact byte_lt _ _ | apply Keep.alloc | (refine Keep.set ?_ ?_; rotate_left; · omega) | apply Pre.alloc | apply Pre.set | exact Pre.refl _ | exact le_alloc _ | (refine Pre.keep ?_; assumption) | (refine Pre.n ?_; assumption)) | ((with_reducible (first | refine bcase_d (fun hb => ?_) (fun hb => ?_) | refine bcase_mk (fun hb => ?_) (fun hb => ?_))) <;> try simp (maxSteps := 1000000) -implicitDefEqProofs only [push_cast, seval]) | with_reducible refine And.intro ?_ ?_ | omega | (simp only [alloc_n, set_n, kill_n]; omega) | (exfalso; omega))
    have h2 : ¬ s.size < 2 := by omega
    rcases hp : rv s ((2 : Nat) : Int) with _ | p
    · have e0 : readMsg t = none := by
        have hp' : rv s 2 = none := hp
        simp [readMsg, hu, h2, hp']
      rw [e0]
      simp only [Option.getD_none, Option.isSome_none, Msg.v, msg0]
      refine CC.ofN Try.func31 Try.ntmps31 Try.results31 rfl (by decide) (by kernel_rfl) ?_
      simp (maxSteps := 1000000) -implicitDefEqProofs only [push_cast, seval]
      repeat' (first | with_reducible (first | exact Keep.refl _ _ | assumption | exact byte_lt _ _ | apply Keep.alloc | (refine Keep.set ?_ ?_; rotate_left; · omega) | apply Pre.alloc | apply Pre.set | exact Pre.refl _ | exact le_alloc _ | (refine Pre.keep ?_; assumption) | (refine Pre.n ?_; assumption)) | ((with_reducible (first | refine CD.to (hU _) ?_ | refine CQ.pure (fun _ => hU _) ?_ | refine bcase_d (fun hb => ?_) (fun hb => ?_) | refine bcase_mk (fun hb => ?_) (fun hb => ?_))) <;> try simp (maxSteps := 1000000) -implicitDefEqProofs only [push_cast, seval]) | with_reducible refine And.intro ?_ ?_ | omega | (simp only [alloc_n, set_n, kill_n]; omega) | (exfalso; omega))
      with_reducible refine CD.to (one_ok _ _ 0 hz (by omega) _ (by (try simp (maxSteps := 1000000) -implicitDefEqProofs only [push_cast, seval, rdOb]); try rfl)) ?_
      simp (maxSteps := 1000000) -implicitDefEqProofs only [push_cast, seval, rdOb]
      with_reducible refine CD.to (one_ok _ _ 1 hz (by omega) _ (by (try simp (maxSteps := 1000000) -implicitDefEqProofs only [push_cast, seval, rdOb]); try rfl)) ?_
      simp (maxSteps := 1000000) -implicitDefEqProofs only [push_cast, seval, rdOb]
      with_reducible refine CD.to (number_none _ _ 2 hz _ hp (by (try simp (maxSteps := 1000000) -implicitDefEqProofs only [push_cast, seval, rdOb]); try rfl)) ?_
      simp (maxSteps := 1000000) -implicitDefEqProofs only [push_cast, seval, rdOb]
      with_reducible refine CD.to (number_bad _ _ 2 hz _ (by (try simp (maxSteps := 1000000) -implicitDefEqProofs only [push_cast, seval, rdOb]); try rfl)) ?_
      simp (maxSteps := 1000000) -implicitDefEqProofs only [push_cast, seval, rdOb]
      repeat' (first | with_reducible (first | exact Keep.refl _ _ | assumption | exact byte_lt _ _ | apply Keep.alloc | (refine Keep.set ?_ ?_; rotate_left; · omega) | apply Pre.alloc | apply Pre.set | exact Pre.refl _ | exact le_alloc _ | (refine Pre.keep ?_; assumption) | (refine Pre.n ?_; assumption)) | ((with_reducible (first | refine bcase_d (fun hb => ?_) (fun hb => ?_) | refine bcase_mk (fun hb => ?_) (fun hb => ?_))) <;> try simp (maxSteps := 1000000) -implicitDefEqProofs only [push_cast, seval]) | with_reducible refine And.intro ?_ ?_ | omega | (simp only [alloc_n, set_n, kill_n]; omega) | (exfalso; omega))
    rcases hq : rv s ((p.2 : Nat) : Int) with _ | q
    · have e0 : readMsg t = none := by
        have hp' : rv s 2 = some p := hp
        simp [readMsg, hu, h2, hp', hq]
      rw [e0]
      simp only [Option.getD_none, Option.isSome_none, Msg.v, msg0]
      refine CC.ofN Try.func31 Try.ntmps31 Try.results31 rfl (by decide) (by kernel_rfl) ?_
      simp (maxSteps := 1000000) -implicitDefEqProofs only [push_cast, seval]
      repeat' (first | with_reducible (first | exact Keep.refl _ _ | assumption | exact byte_lt _ _ | apply Keep.alloc | (refine Keep.set ?_ ?_; rotate_left; · omega) | apply Pre.alloc | apply Pre.set | exact Pre.refl _ | exact le_alloc _ | (refine Pre.keep ?_; assumption) | (refine Pre.n ?_; assumption)) | ((with_reducible (first | refine CD.to (hU _) ?_ | refine CQ.pure (fun _ => hU _) ?_ | refine bcase_d (fun hb => ?_) (fun hb => ?_) | refine bcase_mk (fun hb => ?_) (fun hb => ?_))) <;> try simp (maxSteps := 1000000) -implicitDefEqProofs only [push_cast, seval]) | with_reducible refine And.intro ?_ ?_ | omega | (simp only [alloc_n, set_n, kill_n]; omega) | (exfalso; omega))
      with_reducible refine CD.to (one_ok _ _ 0 hz (by omega) _ (by (try simp (maxSteps := 1000000) -implicitDefEqProofs only [push_cast, seval, rdOb]); try rfl)) ?_
      simp (maxSteps := 1000000) -implicitDefEqProofs only [push_cast, seval, rdOb]
      with_reducible refine CD.to (one_ok _ _ 1 hz (by omega) _ (by (try simp (maxSteps := 1000000) -implicitDefEqProofs only [push_cast, seval, rdOb]); try rfl)) ?_
      simp (maxSteps := 1000000) -implicitDefEqProofs only [push_cast, seval, rdOb]
      with_reducible refine CD.to (number_some _ _ 2 p hz _ hp (by (try simp (maxSteps := 1000000) -implicitDefEqProofs only [push_cast, seval, rdOb]); try rfl)) ?_
      simp (maxSteps := 1000000) -implicitDefEqProofs only [push_cast, seval, rdOb]
      with_reducible refine CD.to (number_none _ _ p.2 hz _ hq (by (try simp (maxSteps := 1000000) -implicitDefEqProofs only [push_cast, seval, rdOb]); try rfl)) ?_
      simp (maxSteps := 1000000) -implicitDefEqProofs only [push_cast, seval, rdOb]
      repeat' (first | with_reducible (first | exact Keep.refl _ _ | assumption | exact byte_lt _ _ | apply Keep.alloc | (refine Keep.set ?_ ?_; rotate_left; · omega) | apply Pre.alloc | apply Pre.set | exact Pre.refl _ | exact le_alloc _ | (refine Pre.keep ?_; assumption) | (refine Pre.n ?_; assumption)) | ((with_reducible (first | refine bcase_d (fun hb => ?_) (fun hb => ?_) | refine bcase_mk (fun hb => ?_) (fun hb => ?_))) <;> try simp (maxSteps := 1000000) -implicitDefEqProofs only [push_cast, seval]) | with_reducible refine And.intro ?_ ?_ | omega | (simp only [alloc_n, set_n, kill_n]; omega) | (exfalso; omega))
    · have e0 : readMsg t = if msgOk ⟨bN s 0, bN s 1, p.1, q.1, s.extract q.2 s.size⟩ then some ⟨bN s 0, bN s 1, p.1, q.1, s.extract q.2 s.size⟩ else none := by
        have hp' : rv s 2 = some p := hp
        simp [readMsg, hu, h2, hp', hq]
      have hx := rv_some hq
      have hM := MessageOk_i ⟨bN s 0, bN s 1, p.1, q.1, s.extract q.2 s.size⟩
      simp only [Msg.v] at hM
      rw [e0]
      refine CC.ofN Try.func31 Try.ntmps31 Try.results31 rfl (by decide) (by kernel_rfl) ?_
      simp (maxSteps := 1000000) -implicitDefEqProofs only [push_cast, seval]
      repeat' (first | with_reducible (first | exact Keep.refl _ _ | assumption | exact byte_lt _ _ | apply Keep.alloc | (refine Keep.set ?_ ?_; rotate_left; · omega) | apply Pre.alloc | apply Pre.set | exact Pre.refl _ | exact le_alloc _ | (refine Pre.keep ?_; assumption) | (refine Pre.n ?_; assumption)) | ((with_reducible (first | refine CD.to (hU _) ?_ | refine CQ.pure (fun _ => hU _) ?_ | refine bcase_d (fun hb => ?_) (fun hb => ?_) | refine bcase_mk (fun hb => ?_) (fun hb => ?_))) <;> try simp (maxSteps := 1000000) -implicitDefEqProofs only [push_cast, seval]) | with_reducible refine And.intro ?_ ?_ | omega | (simp only [alloc_n, set_n, kill_n]; omega) | (exfalso; omega))
      with_reducible refine CD.to (one_ok _ _ 0 hz (by omega) _ (by (try simp (maxSteps := 1000000) -implicitDefEqProofs only [push_cast, seval, rdOb]); try rfl)) ?_
      simp (maxSteps := 1000000) -implicitDefEqProofs only [push_cast, seval, rdOb]
      with_reducible refine CD.to (one_ok _ _ 1 hz (by omega) _ (by (try simp (maxSteps := 1000000) -implicitDefEqProofs only [push_cast, seval, rdOb]); try rfl)) ?_
      simp (maxSteps := 1000000) -implicitDefEqProofs only [push_cast, seval, rdOb]
      with_reducible refine CD.to (number_some _ _ 2 p hz _ hp (by (try simp (maxSteps := 1000000) -implicitDefEqProofs only [push_cast, seval, rdOb]); try rfl)) ?_
      simp (maxSteps := 1000000) -implicitDefEqProofs only [push_cast, seval, rdOb]
      with_reducible refine CD.to (number_some _ _ p.2 q hz _ hq (by (try simp (maxSteps := 1000000) -implicitDefEqProofs only [push_cast, seval, rdOb]); try rfl)) ?_
      simp (maxSteps := 1000000) -implicitDefEqProofs only [push_cast, seval, rdOb]
      repeat' (first | with_reducible (first | exact Keep.refl _ _ | assumption | exact byte_lt _ _ | apply Keep.alloc | (refine Keep.set ?_ ?_; rotate_left; · omega) | apply Pre.alloc | apply Pre.set | exact Pre.refl _ | exact le_alloc _ | (refine Pre.keep ?_; assumption) | (refine Pre.n ?_; assumption)) | ((with_reducible (first | refine CD.to (hM _) ?_ | refine CQ.pure (fun _ => hM _) ?_ | refine bcase_d (fun hb => ?_) (fun hb => ?_) | refine bcase_mk (fun hb => ?_) (fun hb => ?_))) <;> try simp (maxSteps := 1000000) -implicitDefEqProofs only [push_cast, seval]) | with_reducible refine And.intro ?_ ?_ | omega | (simp only [alloc_n, set_n, kill_n]; omega) | (exfalso; omega))
      all_goals simp [hb, Msg.v, msg0]
theorem ReadMessage_s (t : ByteArray) (hs : t.size ≤ maxLen - 16) (h : AH) : CD Try.prog 30 [.string t] h (.tuple #[((readMsg t).getD msg0).v, .bool (readMsg t).isSome]) h := by
  refine CD.quiet ?_ (low_tuple (by simp [low_bool]; exact low_agg (by simp [low_int, low_string])))
  have hm := maxLen_eq
  have hU := Unsealed_s t (by omega)
  rcases hu : unsealT t with _ | s
  · have e0 : readMsg t = none := by simp [readMsg, hu]
    rw [hu] at hU
    rw [e0]
    simp only [Option.getD_none, Option.isSome_none, Msg.v, msg0] at hU ⊢
    refine CC.ofN Try.func30 Try.ntmps30 Try.results30 rfl (by decide) (by kernel_rfl) ?_
    simp (maxSteps := 1000000) -implicitDefEqProofs only [push_cast, seval]
    repeat' (first | with_reducible (first | exact Keep.refl _ _ | assumption | exact byte_lt _ _ | apply Keep.alloc | (refine Keep.set ?_ ?_; rotate_left; · omega) | apply Pre.alloc | apply Pre.set | exact Pre.refl _ | exact le_alloc _ | (refine Pre.keep ?_; assumption) | (refine Pre.n ?_; assumption)) | ((with_reducible (first | refine CD.to (hU _) ?_ | refine CQ.pure (fun _ => hU _) ?_ | refine bcase_d (fun hb => ?_) (fun hb => ?_) | refine bcase_mk (fun hb => ?_) (fun hb => ?_))) <;> try simp (maxSteps := 1000000) -implicitDefEqProofs only [push_cast, seval]) | with_reducible refine And.intro ?_ ?_ | omega | (simp only [alloc_n, set_n, kill_n]; omega) | (exfalso; omega))
  · rw [hu] at hU
    have hz0 := (unsealT_some hu).2
    have hz : s.size ≤ maxLen - 16 := by omega
    simp only [Option.getD_some, Option.isSome_some] at hU
    by_cases h2 : s.size < 2
    · have e0 : readMsg t = none := by simp [readMsg, hu, h2]
      rw [e0]
      simp only [Option.getD_none, Option.isSome_none, Msg.v, msg0]
      refine CC.ofN Try.func30 Try.ntmps30 Try.results30 rfl (by decide) (by kernel_rfl) ?_
      simp (maxSteps := 1000000) -implicitDefEqProofs only [push_cast, seval]
      repeat' (first | with_reducible (first | exact Keep.refl _ _ | assumption | exact byte_lt _ _ | apply Keep.alloc | (refine Keep.set ?_ ?_; rotate_left; · omega) | apply Pre.alloc | apply Pre.set | exact Pre.refl _ | exact le_alloc _ | (refine Pre.keep ?_; assumption) | (refine Pre.n ?_; assumption)) | ((with_reducible (first | refine CD.to (hU _) ?_ | refine CQ.pure (fun _ => hU _) ?_ | refine bcase_d (fun hb => ?_) (fun hb => ?_) | refine bcase_mk (fun hb => ?_) (fun hb => ?_))) <;> try simp (maxSteps := 1000000) -implicitDefEqProofs only [push_cast, seval]) | with_reducible refine And.intro ?_ ?_ | omega | (simp only [alloc_n, set_n, kill_n]; omega) | (exfalso; omega))
    have eb0 : ((byteAt s 0).toNat : Int) = (bN s 0 : Nat) := rfl
    have eb1 : ((byteAt s 1).toNat : Int) = (bN s 1 : Nat) := rfl
    have w0 : IntKind.i64.wrap ((bN s 0 : Nat) : Int) = (bN s 0 : Nat) := wrapNat (by have := bN_lt s 0; omega)
    have w1 : IntKind.i64.wrap ((bN s 1 : Nat) : Int) = (bN s 1 : Nat) := wrapNat (by have := bN_lt s 1; omega)
    rcases hp : rv s ((2 : Nat) : Int) with _ | p
    · have e0 : readMsg t = none := by
        have hp' : rv s 2 = none := hp
        simp [readMsg, hu, h2, hp']
      rw [e0]
      simp only [Option.getD_none, Option.isSome_none, Msg.v, msg0]
      refine CC.ofN Try.func30 Try.ntmps30 Try.results30 rfl (by decide) (by kernel_rfl) ?_
      simp (maxSteps := 1000000) -implicitDefEqProofs only [push_cast, seval]
      repeat' (first | with_reducible (first | exact Keep.refl _ _ | assumption | exact byte_lt _ _ | apply Keep.alloc | (refine Keep.set ?_ ?_; rotate_left; · omega) | apply Pre.alloc | apply Pre.set | exact Pre.refl _ | exact le_alloc _ | (refine Pre.keep ?_; assumption) | (refine Pre.n ?_; assumption)) | ((with_reducible (first | refine CD.to (hU _) ?_ | refine CQ.pure (fun _ => hU _) ?_ | refine bcase_d (fun hb => ?_) (fun hb => ?_) | refine bcase_mk (fun hb => ?_) (fun hb => ?_))) <;> try simp (maxSteps := 1000000) -implicitDefEqProofs only [push_cast, seval]) | with_reducible refine And.intro ?_ ?_ | omega | (simp only [alloc_n, set_n, kill_n]; omega) | (exfalso; omega))
      refine WC.draw' (by kernel_rfl) (by kernel_rfl) (.q 0 (.q 1 (.q 2 (.q 3 (.q 4 (.q 5 (.q 6 (.b 7 (.q 8 (.a 9 false (.a 10 true (.done)))) 9 (.a 7 false (.q 8 (.a 10 true (.done)))))))))))) (by kernel_rfl) ?_
      simp (maxSteps := 1000000) -implicitDefEqProofs only [push_cast, seval, eb0, eb1, w0, w1]
      repeat' (first | with_reducible (first | exact Keep.refl _ _ | assumption | exact byte_lt _ _ | apply Keep.alloc | (refine Keep.set ?_ ?_; rotate_left; · omega) | apply Pre.alloc | apply Pre.set | exact Pre.refl _ | exact le_alloc _ | (refine Pre.keep ?_; assumption) | (refine Pre.n ?_; assumption)) | ((with_reducible (first | refine bcase_d (fun hb => ?_) (fun hb => ?_) | refine bcase_mk (fun hb => ?_) (fun hb => ?_))) <;> try simp (maxSteps := 1000000) -implicitDefEqProofs only [push_cast, seval]) | with_reducible refine And.intro ?_ ?_ | omega | (simp only [alloc_n, set_n, kill_n]; omega) | (exfalso; omega))
      all_goals
        with_reducible refine CD.to (l07Var_none _ _ 2 hz _ hp (by (try simp (maxSteps := 1000000) -implicitDefEqProofs only [push_cast, seval, rdOb]); try rfl)) ?_
        simp (maxSteps := 1000000) -implicitDefEqProofs only [push_cast, seval, rdOb, eb0, eb1, w0, w1]
        repeat' (first | with_reducible (first | exact Keep.refl _ _ | assumption | exact byte_lt _ _ | apply Keep.alloc | (refine Keep.set ?_ ?_; rotate_left; · omega) | apply Pre.alloc | apply Pre.set | exact Pre.refl _ | exact le_alloc _ | (refine Pre.keep ?_; assumption) | (refine Pre.n ?_; assumption)) | ((with_reducible (first | refine bcase_d (fun hb => ?_) (fun hb => ?_) | refine bcase_mk (fun hb => ?_) (fun hb => ?_))) <;> try simp (maxSteps := 1000000) -implicitDefEqProofs only [push_cast, seval]) | with_reducible refine And.intro ?_ ?_ | omega | (simp only [alloc_n, set_n, kill_n]; omega) | (exfalso; omega))
        with_reducible refine CD.to (l07Var_bad _ _ 2 hz _ (by (try simp (maxSteps := 1000000) -implicitDefEqProofs only [push_cast, seval, rdOb]); try rfl)) ?_
        simp (maxSteps := 1000000) -implicitDefEqProofs only [push_cast, seval, rdOb]
        repeat' (first | with_reducible (first | exact Keep.refl _ _ | assumption | exact byte_lt _ _ | apply Keep.alloc | (refine Keep.set ?_ ?_; rotate_left; · omega) | apply Pre.alloc | apply Pre.set | exact Pre.refl _ | exact le_alloc _ | (refine Pre.keep ?_; assumption) | (refine Pre.n ?_; assumption)) | ((with_reducible (first | refine bcase_d (fun hb => ?_) (fun hb => ?_) | refine bcase_mk (fun hb => ?_) (fun hb => ?_))) <;> try simp (maxSteps := 1000000) -implicitDefEqProofs only [push_cast, seval]) | with_reducible refine And.intro ?_ ?_ | omega | (simp only [alloc_n, set_n, kill_n]; omega) | (exfalso; omega))
    rcases hq : rv s ((p.2 : Nat) : Int) with _ | q
    · have e0 : readMsg t = none := by
        have hp' : rv s 2 = some p := hp
        simp [readMsg, hu, h2, hp', hq]
      rw [e0]
      simp only [Option.getD_none, Option.isSome_none, Msg.v, msg0]
      refine CC.ofN Try.func30 Try.ntmps30 Try.results30 rfl (by decide) (by kernel_rfl) ?_
      simp (maxSteps := 1000000) -implicitDefEqProofs only [push_cast, seval]
      repeat' (first | with_reducible (first | exact Keep.refl _ _ | assumption | exact byte_lt _ _ | apply Keep.alloc | (refine Keep.set ?_ ?_; rotate_left; · omega) | apply Pre.alloc | apply Pre.set | exact Pre.refl _ | exact le_alloc _ | (refine Pre.keep ?_; assumption) | (refine Pre.n ?_; assumption)) | ((with_reducible (first | refine CD.to (hU _) ?_ | refine CQ.pure (fun _ => hU _) ?_ | refine bcase_d (fun hb => ?_) (fun hb => ?_) | refine bcase_mk (fun hb => ?_) (fun hb => ?_))) <;> try simp (maxSteps := 1000000) -implicitDefEqProofs only [push_cast, seval]) | with_reducible refine And.intro ?_ ?_ | omega | (simp only [alloc_n, set_n, kill_n]; omega) | (exfalso; omega))
      refine WC.draw' (by kernel_rfl) (by kernel_rfl) (.q 0 (.q 1 (.q 2 (.q 3 (.q 4 (.q 5 (.q 6 (.b 7 (.q 8 (.a 9 false (.a 10 true (.done)))) 9 (.a 7 false (.q 8 (.a 10 true (.done)))))))))))) (by kernel_rfl) ?_
      simp (maxSteps := 1000000) -implicitDefEqProofs only [push_cast, seval, eb0, eb1, w0, w1]
      repeat' (first | with_reducible (first | exact Keep.refl _ _ | assumption | exact byte_lt _ _ | apply Keep.alloc | (refine Keep.set ?_ ?_; rotate_left; · omega) | apply Pre.alloc | apply Pre.set | exact Pre.refl _ | exact le_alloc _ | (refine Pre.keep ?_; assumption) | (refine Pre.n ?_; assumption)) | ((with_reducible (first | refine bcase_d (fun hb => ?_) (fun hb => ?_) | refine bcase_mk (fun hb => ?_) (fun hb => ?_))) <;> try simp (maxSteps := 1000000) -implicitDefEqProofs only [push_cast, seval]) | with_reducible refine And.intro ?_ ?_ | omega | (simp only [alloc_n, set_n, kill_n]; omega) | (exfalso; omega))
      all_goals
        with_reducible refine CD.to (l07Var_some _ _ 2 p hz _ hp (by (try simp (maxSteps := 1000000) -implicitDefEqProofs only [push_cast, seval, rdOb]); try rfl)) ?_
        simp (maxSteps := 1000000) -implicitDefEqProofs only [push_cast, seval, rdOb, eb0, eb1, w0, w1]
        repeat' (first | with_reducible (first | exact Keep.refl _ _ | assumption | exact byte_lt _ _ | apply Keep.alloc | (refine Keep.set ?_ ?_; rotate_left; · omega) | apply Pre.alloc | apply Pre.set | exact Pre.refl _ | exact le_alloc _ | (refine Pre.keep ?_; assumption) | (refine Pre.n ?_; assumption)) | ((with_reducible (first | refine bcase_d (fun hb => ?_) (fun hb => ?_) | refine bcase_mk (fun hb => ?_) (fun hb => ?_))) <;> try simp (maxSteps := 1000000) -implicitDefEqProofs only [push_cast, seval]) | with_reducible refine And.intro ?_ ?_ | omega | (simp only [alloc_n, set_n, kill_n]; omega) | (exfalso; omega))
        with_reducible refine CD.to (l07Var_none _ _ p.2 hz _ hq (by (try simp (maxSteps := 1000000) -implicitDefEqProofs only [push_cast, seval, rdOb]); try rfl)) ?_
        simp (maxSteps := 1000000) -implicitDefEqProofs only [push_cast, seval, rdOb]
        repeat' (first | with_reducible (first | exact Keep.refl _ _ | assumption | exact byte_lt _ _ | apply Keep.alloc | (refine Keep.set ?_ ?_; rotate_left; · omega) | apply Pre.alloc | apply Pre.set | exact Pre.refl _ | exact le_alloc _ | (refine Pre.keep ?_; assumption) | (refine Pre.n ?_; assumption)) | ((with_reducible (first | refine bcase_d (fun hb => ?_) (fun hb => ?_) | refine bcase_mk (fun hb => ?_) (fun hb => ?_))) <;> try simp (maxSteps := 1000000) -implicitDefEqProofs only [push_cast, seval]) | with_reducible refine And.intro ?_ ?_ | omega | (simp only [alloc_n, set_n, kill_n]; omega) | (exfalso; omega))
    · have e0 : readMsg t = if msgOk ⟨bN s 0, bN s 1, p.1, q.1, s.extract q.2 s.size⟩ then some ⟨bN s 0, bN s 1, p.1, q.1, s.extract q.2 s.size⟩ else none := by
        have hp' : rv s 2 = some p := hp
        simp [readMsg, hu, h2, hp', hq]
      have hx := rv_some hq
      have hM := MessageText_s ⟨bN s 0, bN s 1, p.1, q.1, s.extract q.2 s.size⟩
      have hb1 := msg_back (by omega) hp hq
      have hb2 := (unsealT_some hu).1
      have hT : msgOk ⟨bN s 0, bN s 1, p.1, q.1, s.extract q.2 s.size⟩ = true → msgText ⟨bN s 0, bN s 1, p.1, q.1, s.extract q.2 s.size⟩ = t := fun hk => by
        rw [msgText, if_pos hk, hb1, hb2]
      simp only [Msg.v] at hM
      rw [e0]
      generalize msgText ⟨bN s 0, bN s 1, p.1, q.1, s.extract q.2 s.size⟩ = T at hM hT
      refine CC.ofN Try.func30 Try.ntmps30 Try.results30 rfl (by decide) (by kernel_rfl) ?_
      simp (maxSteps := 1000000) -implicitDefEqProofs only [push_cast, seval]
      repeat' (first | with_reducible (first | exact Keep.refl _ _ | assumption | exact byte_lt _ _ | apply Keep.alloc | (refine Keep.set ?_ ?_; rotate_left; · omega) | apply Pre.alloc | apply Pre.set | exact Pre.refl _ | exact le_alloc _ | (refine Pre.keep ?_; assumption) | (refine Pre.n ?_; assumption)) | ((with_reducible (first | refine CD.to (hU _) ?_ | refine CQ.pure (fun _ => hU _) ?_ | refine bcase_d (fun hb => ?_) (fun hb => ?_) | refine bcase_mk (fun hb => ?_) (fun hb => ?_))) <;> try simp (maxSteps := 1000000) -implicitDefEqProofs only [push_cast, seval]) | with_reducible refine And.intro ?_ ?_ | omega | (simp only [alloc_n, set_n, kill_n]; omega) | (exfalso; omega))
      refine WC.draw' (by kernel_rfl) (by kernel_rfl) (.q 0 (.q 1 (.q 2 (.q 3 (.q 4 (.q 5 (.q 6 (.b 7 (.q 8 (.a 9 false (.a 10 true (.done)))) 9 (.a 7 false (.q 8 (.a 10 true (.done)))))))))))) (by kernel_rfl) ?_
      simp (maxSteps := 1000000) -implicitDefEqProofs only [push_cast, seval, eb0, eb1, w0, w1]
      repeat' (first | with_reducible (first | exact Keep.refl _ _ | assumption | exact byte_lt _ _ | apply Keep.alloc | (refine Keep.set ?_ ?_; rotate_left; · omega) | apply Pre.alloc | apply Pre.set | exact Pre.refl _ | exact le_alloc _ | (refine Pre.keep ?_; assumption) | (refine Pre.n ?_; assumption)) | ((with_reducible (first | refine bcase_d (fun hb => ?_) (fun hb => ?_) | refine bcase_mk (fun hb => ?_) (fun hb => ?_))) <;> try simp (maxSteps := 1000000) -implicitDefEqProofs only [push_cast, seval]) | with_reducible refine And.intro ?_ ?_ | omega | (simp only [alloc_n, set_n, kill_n]; omega) | (exfalso; omega))
      all_goals
        with_reducible refine CD.to (l07Var_some _ _ 2 p hz _ hp (by (try simp (maxSteps := 1000000) -implicitDefEqProofs only [push_cast, seval, rdOb]); try rfl)) ?_
        simp (maxSteps := 1000000) -implicitDefEqProofs only [push_cast, seval, rdOb, eb0, eb1, w0, w1]
        repeat' (first | with_reducible (first | exact Keep.refl _ _ | assumption | exact byte_lt _ _ | apply Keep.alloc | (refine Keep.set ?_ ?_; rotate_left; · omega) | apply Pre.alloc | apply Pre.set | exact Pre.refl _ | exact le_alloc _ | (refine Pre.keep ?_; assumption) | (refine Pre.n ?_; assumption)) | ((with_reducible (first | refine bcase_d (fun hb => ?_) (fun hb => ?_) | refine bcase_mk (fun hb => ?_) (fun hb => ?_))) <;> try simp (maxSteps := 1000000) -implicitDefEqProofs only [push_cast, seval]) | with_reducible refine And.intro ?_ ?_ | omega | (simp only [alloc_n, set_n, kill_n]; omega) | (exfalso; omega))
        with_reducible refine CD.to (l07Var_some _ _ p.2 q hz _ hq (by (try simp (maxSteps := 1000000) -implicitDefEqProofs only [push_cast, seval, rdOb]); try rfl)) ?_
        simp (maxSteps := 1000000) -implicitDefEqProofs only [push_cast, seval, rdOb]
        repeat' (first | with_reducible (first | exact Keep.refl _ _ | assumption | exact byte_lt _ _ | apply Keep.alloc | (refine Keep.set ?_ ?_; rotate_left; · omega) | apply Pre.alloc | apply Pre.set | exact Pre.refl _ | exact le_alloc _ | (refine Pre.keep ?_; assumption) | (refine Pre.n ?_; assumption)) | ((with_reducible (first | refine CD.to (hM _) ?_ | refine CQ.pure (fun _ => hM _) ?_ | refine bcase_d (fun hb => ?_) (fun hb => ?_) | refine bcase_mk (fun hb => ?_) (fun hb => ?_))) <;> try simp (maxSteps := 1000000) -implicitDefEqProofs only [push_cast, seval]) | with_reducible refine And.intro ?_ ?_ | omega | (simp only [alloc_n, set_n, kill_n]; omega) | (exfalso; omega))
        all_goals first
          | (simp [Msg.v, msg0, *]; done)
          | exact absurd (hT (by assumption)) (by assumption)
end Go.Proofs.Ytfbcedjheempfaa
namespace Go.Proofs.Ytfbcedjheempfaa
open Go Go.Sim Go.Proofs
set_option linter.unusedSimpArgs false
set_option linter.unusedVariables false
set_option maxRecDepth 100000
set_option maxHeartbeats 1000000
theorem szMessage_c (m : Msg) (l : Int) (hs : m.body.size ≤ maxLen) (hl : 0 ≤ l ∧ l ≤ 1048576) (h : AH) : CD Try.prog 12 [m.v, .int .i64 l] h (.int .i64 (if l - m.body.size < 0 then -1 else l - m.body.size)) h := by
  refine CD.quiet ?_ (low_int _ _ _)
  have hm := maxLen_eq
  have w1 : IntKind.i64.wrap (l - (m.body.size : Int)) = l - (m.body.size : Int) := by rw [w64 (by omega) (by omega)]
  simp only [Msg.v]
  refine CC.ofN Try.func12 Try.ntmps12 Try.results12 rfl (by decide) (by kernel_rfl) ?_
  simp (maxSteps := 1000000) -implicitDefEqProofs only [push_cast, seval, w1]
  repeat' (first | with_reducible (first | exact Keep.refl _ _ | assumption | exact byte_lt _ _ | apply Keep.alloc | (refine Keep.set ?_ ?_; rotate_left; · omega) | apply Pre.alloc | apply Pre.set | exact Pre.refl _ | exact le_alloc _ | (refine Pre.keep ?_; assumption) | (refine Pre.n ?_; assumption)) | ((with_reducible (first | refine bcase_d (fun hb => ?_) (fun hb => ?_) | refine bcase_mk (fun hb => ?_) (fun hb => ?_))) <;> try simp (maxSteps := 1000000) -implicitDefEqProofs only [push_cast, seval, w1]) | with_reducible refine And.intro ?_ ?_ | omega | (simp only [alloc_n, set_n, kill_n]; omega) | (exfalso; omega))
  all_goals grind
theorem toMessage_c (m : Msg) (h : AH) : CD Try.prog 14 [m.v] h m.v h := by
  simp only [Msg.v]
  refine CD.quiet ?_ (low_agg (by simp [low_int, low_string]))
  refine CC.ofN Try.func14 Try.ntmps14 Try.results14 rfl (by decide) (by kernel_rfl) ?_
  simp (maxSteps := 1000000) -implicitDefEqProofs only [push_cast, seval]
  repeat' (first | with_reducible (first | exact Keep.refl _ _ | assumption | exact byte_lt _ _ | apply Keep.alloc | (refine Keep.set ?_ ?_; rotate_left; · omega) | apply Pre.alloc | apply Pre.set | exact Pre.refl _ | exact le_alloc _ | (refine Pre.keep ?_; assumption) | (refine Pre.n ?_; assumption)) | ((with_reducible (first | refine bcase_d (fun hb => ?_) (fun hb => ?_) | refine bcase_mk (fun hb => ?_) (fun hb => ?_))) <;> try simp (maxSteps := 1000000) -implicitDefEqProofs only [push_cast, seval]) | with_reducible refine And.intro ?_ ?_ | omega | (simp only [alloc_n, set_n, kill_n]; omega) | (exfalso; omega))
theorem eqMessage_c (a b : Msg) (h : AH) : CD Try.prog 32 [a.v, b.v] h (.bool (decide (a = b))) h := by
  simp only [Msg.v]
  refine CD.quiet ?_ (low_bool _ _)
  refine CC.ofN Try.func32 Try.ntmps32 Try.results32 rfl (by decide) (by kernel_rfl) ?_
  simp (maxSteps := 1000000) -implicitDefEqProofs only [push_cast, seval]
  repeat' (first | with_reducible (first | exact Keep.refl _ _ | assumption | exact byte_lt _ _ | apply Keep.alloc | (refine Keep.set ?_ ?_; rotate_left; · omega) | apply Pre.alloc | apply Pre.set | exact Pre.refl _ | exact le_alloc _ | (refine Pre.keep ?_; assumption) | (refine Pre.n ?_; assumption)) | ((with_reducible (first | refine bcase_d (fun hb => ?_) (fun hb => ?_) | refine bcase_mk (fun hb => ?_) (fun hb => ?_))) <;> try simp (maxSteps := 1000000) -implicitDefEqProofs only [push_cast, seval]) | with_reducible refine And.intro ?_ ?_ | omega | (simp only [alloc_n, set_n, kill_n]; omega) | (exfalso; omega))
  all_goals (obtain ⟨a1, a2, a3, a4, a5⟩ := a; obtain ⟨b1, b2, b3, b4, b5⟩ := b; simp_all [Msg.mk.injEq])
theorem law_MessageText (m : Msg) (hs : m.body.size ≤ maxLen) (h : AH) : CE Try.prog 5 [m.v] h fun v _ => v = .bool true := by
  have h1 := szMessage_c m 1048576 hs (by omega)
  have h2 := toMessage_c m
  have h3 := MessageText_i m
  have h4 := MessageText_s m
  simp only [Msg.v] at *
  refine CE.ofN Try.func5 Try.ntmps5 Try.results5 rfl (by kernel_rfl) ?_
  simp (maxSteps := 1000000) -implicitDefEqProofs only [push_cast, seval]
  repeat' (first | with_reducible (first | exact Keep.refl _ _ | assumption | exact byte_lt _ _ | apply Keep.alloc | (refine Keep.set ?_ ?_; rotate_left; · omega) | apply Pre.alloc | apply Pre.set | exact Pre.refl _ | exact le_alloc _ | (refine Pre.keep ?_; assumption) | (refine Pre.n ?_; assumption)) | ((with_reducible (first | refine CD.to (h1 _) ?_ | refine CQ.pure (fun _ => h1 _) ?_ | refine CD.to (h2 _) ?_ | refine CQ.pure (fun _ => h2 _) ?_ | refine CD.to (h3 _) ?_ | refine CQ.pure (fun _ => h3 _) ?_ | refine CD.to (h4 _) ?_ | refine CQ.pure (fun _ => h4 _) ?_ | refine bcase_d (fun hb => ?_) (fun hb => ?_) | refine bcase_mk (fun hb => ?_) (fun hb => ?_))) <;> try simp (maxSteps := 1000000) -implicitDefEqProofs only [push_cast, seval]) | with_reducible refine And.intro ?_ ?_ | omega | (simp only [alloc_n, set_n, kill_n]; omega) | (exfalso; omega))
  all_goals simp at hb
theorem law_ReadMessage (t : ByteArray) (hs : t.size ≤ maxLen) (h : AH) : CE Try.prog 7 [.string t] h fun v _ => v = .bool true := by
  have hm := maxLen_eq
  by_cases hz : t.size ≤ 1048576
  · have h3 := ReadMessage_i t (by omega)
    have h4 := ReadMessage_s t (by omega)
    have h5 := eqMessage_c ((readMsg t).getD msg0) ((readMsg t).getD msg0)
    simp only [Msg.v] at *
    refine CE.ofN Try.func7 Try.ntmps7 Try.results7 rfl (by kernel_rfl) ?_
    simp (maxSteps := 1000000) -implicitDefEqProofs only [push_cast, seval]
    repeat' (first | with_reducible (first | exact Keep.refl _ _ | assumption | exact byte_lt _ _ | apply Keep.alloc | (refine Keep.set ?_ ?_; rotate_left; · omega) | apply Pre.alloc | apply Pre.set | exact Pre.refl _ | exact le_alloc _ | (refine Pre.keep ?_; assumption) | (refine Pre.n ?_; assumption)) | ((with_reducible (first | refine CD.to (h3 _) ?_ | refine CQ.pure (fun _ => h3 _) ?_ | refine CD.to (h4 _) ?_ | refine CQ.pure (fun _ => h4 _) ?_ | refine CD.to (h5 _) ?_ | refine CQ.pure (fun _ => h5 _) ?_ | refine bcase_d (fun hb => ?_) (fun hb => ?_) | refine bcase_mk (fun hb => ?_) (fun hb => ?_))) <;> try simp (maxSteps := 1000000) -implicitDefEqProofs only [push_cast, seval]) | with_reducible refine And.intro ?_ ?_ | omega | (simp only [alloc_n, set_n, kill_n]; omega) | (exfalso; omega))
    all_goals simp at hb
  · refine CE.ofN Try.func7 Try.ntmps7 Try.results7 rfl (by kernel_rfl) ?_
    simp (maxSteps := 1000000) -implicitDefEqProofs only [push_cast, seval]
    repeat' (first | with_reducible (first | exact Keep.refl _ _ | assumption | exact byte_lt _ _ | apply Keep.alloc | (refine Keep.set ?_ ?_; rotate_left; · omega) | apply Pre.alloc | apply Pre.set | exact Pre.refl _ | exact le_alloc _ | (refine Pre.keep ?_; assumption) | (refine Pre.n ?_; assumption)) | ((with_reducible (first | refine bcase_d (fun hb => ?_) (fun hb => ?_) | refine bcase_mk (fun hb => ?_) (fun hb => ?_))) <;> try simp (maxSteps := 1000000) -implicitDefEqProofs only [push_cast, seval]) | with_reducible refine And.intro ?_ ?_ | omega | (simp only [alloc_n, set_n, kill_n]; omega) | (exfalso; omega))
end Go.Proofs.Ytfbcedjheempfaa
namespace Go.Proofs.Ytfbcedjheempfaa
open Go Go.Sim Go.Proofs
set_option linter.unusedSimpArgs false
set_option linter.unusedVariables false
set_option maxRecDepth 100000
set_option maxHeartbeats 1000000
theorem ShortText_c (s : ByteArray) (hs : s.size ≤ 20000) (h : AH) : CD Try.prog 118 [.string s] h (.tuple #[.string (short s), .bool true]) h := by
  refine CD.quiet ?_ (low_tuple (by simp [low_string, low_bool]))
  have hb0 : inB (s.size : Nat) 0 1000000000 = true := by simp [inB]; omega
  have hz := vt_size (n := (s.size : Nat)) (by omega)
  refine CC.ofN Try.func118 Try.ntmps118 Try.results118 rfl (by decide) (by kernel_rfl) ?_
  simp (maxSteps := 1000000) -implicitDefEqProofs only [push_cast, seval]
  repeat' (first | with_reducible (first | exact Keep.refl _ _ | assumption | exact byte_lt _ _ | apply Keep.alloc | (refine Keep.set ?_ ?_; rotate_left; · omega) | apply Pre.alloc | apply Pre.set | exact Pre.refl _ | exact le_alloc _ | (refine Pre.keep ?_; assumption) | (refine Pre.n ?_; assumption)) | ((with_reducible (first | refine CD.to (VarText_c _ _) ?_ | refine CQ.pure (fun _ => VarText_c _ _) ?_ | refine bcase_d (fun hb => ?_) (fun hb => ?_) | refine bcase_mk (fun hb => ?_) (fun hb => ?_))) <;> try simp (maxSteps := 1000000) -implicitDefEqProofs only [push_cast, seval, hb0]) | with_reducible refine And.intro ?_ ?_ | omega | (simp only [alloc_n, set_n, kill_n]; omega) | (exfalso; omega))
  all_goals (simp [short]; try omega)
theorem shortOf_c (s : ByteArray) (hs : s.size ≤ 20000) (h : AH) : CD Try.prog 84 [.string s] h (.string (short s)) h := by
  refine CD.quiet ?_ (low_string _ _)
  refine CC.ofN Try.func84 Try.ntmps84 Try.results84 rfl (by decide) (by kernel_rfl) ?_
  simp (maxSteps := 1000000) -implicitDefEqProofs only [push_cast, seval]
  repeat' (first | with_reducible (first | exact Keep.refl _ _ | assumption | exact byte_lt _ _ | apply Keep.alloc | (refine Keep.set ?_ ?_; rotate_left; · omega) | apply Pre.alloc | apply Pre.set | exact Pre.refl _ | exact le_alloc _ | (refine Pre.keep ?_; assumption) | (refine Pre.n ?_; assumption)) | ((with_reducible (first | refine CD.to (ShortText_c _ ?_ _) ?_ | refine CQ.pure (fun _ => ShortText_c _ ?_ _) ?_ | refine bcase_d (fun hb => ?_) (fun hb => ?_) | refine bcase_mk (fun hb => ?_) (fun hb => ?_))) <;> try simp (maxSteps := 1000000) -implicitDefEqProofs only [push_cast, seval]) | with_reducible refine And.intro ?_ ?_ | omega | (simp only [alloc_n, set_n, kill_n]; omega) | (exfalso; omega))
theorem l07Short_c (s : ByteArray) (hs : s.size ≤ 20000) (h : AH) : CD Try.prog 75 [.string s] h (.string (short s)) h := by
  refine CD.quiet ?_ (low_string _ _)
  have hz := vt_size (n := (s.size : Nat)) (by omega)
  refine CC.ofN Try.func75 Try.ntmps75 Try.results75 rfl (by decide) (by kernel_rfl) ?_
  simp (maxSteps := 1000000) -implicitDefEqProofs only [push_cast, seval]
  repeat' (first | with_reducible (first | exact Keep.refl _ _ | assumption | exact byte_lt _ _ | apply Keep.alloc | (refine Keep.set ?_ ?_; rotate_left; · omega) | apply Pre.alloc | apply Pre.set | exact Pre.refl _ | exact le_alloc _ | (refine Pre.keep ?_; assumption) | (refine Pre.n ?_; assumption)) | ((with_reducible (first | refine CD.to (l01Var_c _ ?_ _) ?_ | refine CQ.pure (fun _ => l01Var_c _ ?_ _) ?_ | refine bcase_d (fun hb => ?_) (fun hb => ?_) | refine bcase_mk (fun hb => ?_) (fun hb => ?_))) <;> try simp (maxSteps := 1000000) -implicitDefEqProofs only [push_cast, seval]) | with_reducible refine And.intro ?_ ?_ | omega | (simp only [alloc_n, set_n, kill_n]; omega) | (exfalso; omega))
  all_goals (simp [short]; try omega)
theorem l07Name_c (s : ByteArray) (hs : s.size ≤ maxLen) (h : AH) : CD Try.prog 78 [.string s] h (.bool (letters s)) h := by
  refine CD.quiet ?_ (low_bool _ _)
  rw [maxLen_eq] at hs
  refine CC.ofN Try.func78 Try.ntmps78 Try.results78 rfl (by decide) (by kernel_rfl) ?_
  simp (maxSteps := 1000000) -implicitDefEqProofs only [push_cast, seval]
  refine WC.loopA (by kernel_rfl) [3] [2, 4, 5, 6, 7, 8, 9, 10, 11, 12, 13, 14] (fun i : Nat => [.int .i64 i]) (fun i h' => (i ≤ s.size ∧ ∀ j, j < i → letter (byteAt s j).toNat = true) ∧ h' = h) (fun i => s.size - i) 0 (by kernel_rfl) ⟨⟨Nat.zero_le _, by omega⟩, rfl⟩ ?_
  intro i g h' hJ
  have hi := hJ.1.1
  have hj := hJ.1.2
  have e := hJ.2
  clear hJ
  subst e
  simp (maxSteps := 1000000) -implicitDefEqProofs only [push_cast, seval]
  repeat' (first | with_reducible (first | exact Keep.refl _ _ | assumption | exact byte_lt _ _ | apply Keep.alloc | (refine Keep.set ?_ ?_; rotate_left; · omega) | apply Pre.alloc | apply Pre.set | exact Pre.refl _ | exact le_alloc _ | (refine Pre.keep ?_; assumption) | (refine Pre.n ?_; assumption)) | ((with_reducible (first | refine CD.to (l05Letter_c _ _) ?_ | refine CQ.pure (fun _ => l05Letter_c _ _) ?_ | refine CD.to (l01In_c _ _ _ _) ?_ | refine CQ.pure (fun _ => l01In_c _ _ _ _) ?_ | refine bcase_d (fun hb => ?_) (fun hb => ?_) | refine bcase_mk (fun hb => ?_) (fun hb => ?_))) <;> try simp (maxSteps := 1000000) -implicitDefEqProofs only [push_cast, seval]) | with_reducible refine And.intro ?_ ?_ | omega | (simp only [alloc_n, set_n, kill_n]; omega) | (exfalso; omega))
  · rw [wrapSucc (by omega)]
    exact ⟨i + 1, by kernel_rfl, ⟨by omega, fun j hj' => (Nat.lt_succ_iff_lt_or_eq.1 hj').elim (hj j) (fun e => by subst e; exact hb)⟩, by omega⟩
  · simp only [letters, allAt_false (s := s) (i := i) (by omega) hb]; rfl
  · have : allAt s letter = true := allAt_iff.2 (fun j hj' => hj j (by omega))
    simp [letters, this]
end Go.Proofs.Ytfbcedjheempfaa
namespace Go.Proofs.Ytfbcedjheempfaa
open Go Go.Sim Go.Proofs
set_option linter.unusedSimpArgs false
set_option linter.unusedVariables false
set_option maxRecDepth 100000
set_option maxHeartbeats 1000000
theorem l08Ahead_c (a b : Cell) (h : AH) : CD Try.prog 79 [.agg #[.string a.name, .string a.key, .string a.val], .agg #[.string b.name, .string b.key, .string b.val]] h (.bool (decide (cellCmp a b < 0))) h := by
  refine CD.quiet ?_ (low_bool _ _)
  rw [cellCmp_lt]
  refine CC.ofN Try.func79 Try.ntmps79 Try.results79 rfl (by decide) (by kernel_rfl) ?_
  simp (maxSteps := 1000000) -implicitDefEqProofs only [push_cast, seval]
  repeat' (first | with_reducible (first | exact Keep.refl _ _ | assumption | exact byte_lt _ _ | apply Keep.alloc | (refine Keep.set ?_ ?_; rotate_left; · omega) | apply Pre.alloc | apply Pre.set | exact Pre.refl _ | exact le_alloc _ | (refine Pre.keep ?_; assumption) | (refine Pre.n ?_; assumption)) | ((with_reducible (first | refine bcase_d (fun hb => ?_) (fun hb => ?_) | refine bcase_mk (fun hb => ?_) (fun hb => ?_))) <;> try simp (maxSteps := 1000000) -implicitDefEqProofs only [push_cast, seval]) | with_reducible refine And.intro ?_ ?_ | omega | (simp only [alloc_n, set_n, kill_n]; omega) | (exfalso; omega))
  all_goals (refine congrArg Value.bool ?_; simp only [ltB]; grind)
theorem StoreOk_s (s : Store) (A B : Option Addr) (ca cb : Nat) (h : AH) (hR : RdS h A B s) (hz : Sz s) :
    CD Try.prog 39 [.agg #[.slice A s.vars.length ca, .slice B s.cells.length cb, .string s.out]] h (.bool (storeOk s)) h := by
  refine CD.withBig (fun big => ?_)
  refine CD.quiet ?_ (low_bool _ _)
  have hA := hR.vars
  have hB := hR.cells
  have hz1 := hz.vars
  have hz2 := hz.cells
  have nv := hz.nv
  have nc := hz.nc
  refine CC.ofN Try.func39 Try.ntmps39 Try.results39 rfl (by decide) (by kernel_rfl) ?_
  simp (maxSteps := 1000000) -implicitDefEqProofs only [push_cast, seval]
  refine WC.loopA (by kernel_rfl) [3] [2, 4, 7, 8, 9, 10, 11, 12, 13, 14, 15, 16, 17, 18, 19, 20, 21, 22, 23, 24, 25, 26, 27, 28, 29, 30, 31, 32, 33, 34, 35, 36, 37, 38, 39, 40, 41, 42, 43, 44] (fun i : Nat => [.int .i64 i]) (fun i h' => (i ≤ s.vars.length ∧ ∀ j, j < i → varOkAt s.vars j = true) ∧ Pre (h.alloc (AOb.cells [Value.slice A s.vars.length ca, Value.slice B s.cells.length cb, Value.string s.out] Stat.solo h.n)) h') (fun i => s.vars.length - i) 0 (by kernel_rfl) ⟨⟨Nat.zero_le _, allTo_zero⟩, Pre.refl _⟩ ?_
  intro i g h1 hJ
  have hi := hJ.1.1
  have hj := hJ.1.2
  have hp := hJ.2
  clear hJ
  have p0 : Pre h h1 := ((Pre.refl _).alloc _).trans hp
  have l1 : h.n < h1.n := Nat.lt_of_lt_of_le (lt_alloc _) hp.n
  have e1 : h1.ob h.n = _ := (hp.ob _ (lt_alloc _)).trans (alloc_same _)
  simp (maxSteps := 1000000) -implicitDefEqProofs only [push_cast, seval, rd_of e1, rd1_of e1, l1]
  with_reducible refine bcase_d (fun hb => ?_) (fun hb => ?_)
  · have hi' : i < s.vars.length := by omega
    with_reducible refine hA.use big p0 hi' (fun id off eA hlt hr => ?_)
    subst eA
    simp only [Var.enc] at hr
    have r0 := (rd_2 hr).1
    have r1 := (rd_2 hr).2
    have hz' := (hz1 _ (List.getElem_mem hi')).1
    simp (maxSteps := 1000000) -implicitDefEqProofs only [push_cast, seval, hr, r0, r1, hlt, rd_of e1, rd1_of e1, l1]
    refine And.intro (by omega) (And.intro (by omega) ?_)
    refine WC.draw' (by kernel_rfl) (by kernel_rfl) (.q 0 (.q 1 (.c 2 (.q 3 (.q 4 (.q 5 (.q 6 (.q 7 (.q 8 (.q 9 (.q 10 (.q 11 (.q 12 (.q 13 (.q 14 (.q 15 (.q 16 (.q 17 (.q 18 (.q 19 (.q 20 (.q 21 (.q 22 (.q 23 (.q 24 (.q 25 (.done))))))))))))))))))))))))))) (by kernel_rfl) ?_
    simp (maxSteps := 1000000) -implicitDefEqProofs only [push_cast, seval, e1, hr, r0, r1, hlt, rd_of e1, rd1_of e1, l1]
    have hv := varOkAt_eq hi'
    rcases Nat.eq_zero_or_pos i with h0 | h0
    · repeat' (first | with_reducible (first | exact Keep.refl _ _ | assumption | exact byte_lt _ _ | apply Keep.alloc | (refine Keep.set ?_ ?_; rotate_left; · omega) | apply Pre.alloc | apply Pre.set | exact Pre.refl _ | exact le_alloc _ | (refine Pre.keep ?_; assumption) | (refine Pre.n ?_; assumption)) | ((with_reducible (first | refine CD.to (l07Name_c _ ?_ _) ?_ | refine CQ.pure (fun _ => l07Name_c _ ?_ _) ?_ | refine bcase_d (fun hb => ?_) (fun hb => ?_) | refine bcase_mk (fun hb => ?_) (fun hb => ?_))) <;> try simp (maxSteps := 1000000) -implicitDefEqProofs only [push_cast, seval, e1, hr, r0, r1, hlt, rd_of e1, rd1_of e1, l1]) | with_reducible refine And.intro ?_ ?_ | omega | (simp only [alloc_n, set_n, kill_n]; omega) | (exfalso; omega))
      all_goals first
        | exact congrArg Value.bool (storeOk_v hi' (by rw [hv]; grind [ltB]))
        | (rw [wrapSucc (by omega)]
           refine ⟨i + 1, by kernel_rfl, ⟨⟨by omega, allTo_succ hj (by rw [hv]; grind [ltB])⟩, ?_⟩, by omega⟩
           repeat' (first | with_reducible (first | exact Keep.refl _ _ | assumption | exact byte_lt _ _ | apply Keep.alloc | (refine Keep.set ?_ ?_; rotate_left; · omega) | apply Pre.alloc | apply Pre.set | exact Pre.refl _ | exact le_alloc _ | (refine Pre.keep ?_; assumption) | (refine Pre.n ?_; assumption)) | ((with_reducible (first | refine bcase_d (fun hb => ?_) (fun hb => ?_) | refine bcase_mk (fun hb => ?_) (fun hb => ?_))) <;> try simp (maxSteps := 1000000) -implicitDefEqProofs only [push_cast, seval]) | with_reducible refine And.intro ?_ ?_ | omega | (simp only [alloc_n, set_n, kill_n]; omega) | (exfalso; omega)))
    · have w1 := wrapPred h0 (by omega)
      have q0 := (rd_2 (hA.rdAt big p0 (i := i - 1) (by omega))).1
      have hn0 : ¬ i = 0 := by omega
      repeat' (first | with_reducible (first | exact Keep.refl _ _ | assumption | exact byte_lt _ _ | apply Keep.alloc | (refine Keep.set ?_ ?_; rotate_left; · omega) | apply Pre.alloc | apply Pre.set | exact Pre.refl _ | exact le_alloc _ | (refine Pre.keep ?_; assumption) | (refine Pre.n ?_; assumption)) | ((with_reducible (first | refine CD.to (l07Name_c _ ?_ _) ?_ | refine CQ.pure (fun _ => l07Name_c _ ?_ _) ?_ | refine bcase_d (fun hb => ?_) (fun hb => ?_) | refine bcase_mk (fun hb => ?_) (fun hb => ?_))) <;> try simp (maxSteps := 1000000) -implicitDefEqProofs only [push_cast, seval, e1, hr, r0, r1, hlt, rd_of e1, rd1_of e1, l1, w1, q0]) | with_reducible refine And.intro ?_ ?_ | omega | (simp only [alloc_n, set_n, kill_n]; omega) | (exfalso; omega))
      all_goals first
        | exact congrArg Value.bool (storeOk_v hi' (by rw [hv]; grind [ltB]))
        | (rw [wrapSucc (by omega)]
           refine ⟨i + 1, by kernel_rfl, ⟨⟨by omega, allTo_succ hj (by rw [hv]; grind [ltB])⟩, ?_⟩, by omega⟩
           repeat' (first | with_reducible (first | exact Keep.refl _ _ | assumption | exact byte_lt _ _ | apply Keep.alloc | (refine Keep.set ?_ ?_; rotate_left; · omega) | apply Pre.alloc | apply Pre.set | exact Pre.refl _ | exact le_alloc _ | (refine Pre.keep ?_; assumption) | (refine Pre.n ?_; assumption)) | ((with_reducible (first | refine bcase_d (fun hb => ?_) (fun hb => ?_) | refine bcase_mk (fun hb => ?_) (fun hb => ?_))) <;> try simp (maxSteps := 1000000) -implicitDefEqProofs only [push_cast, seval]) | with_reducible refine And.intro ?_ ?_ | omega | (simp only [alloc_n, set_n, kill_n]; omega) | (exfalso; omega)))
       
  · simp (maxSteps := 1000000) -implicitDefEqProofs only [push_cast, seval, rd_of e1, rd1_of e1, l1]
    have hV : allN s.vars.length (varOkAt s.vars) = true := allN_iff.2 (fun j hj' => hj j (by omega))
    clear hb hj hi
    refine WC.loopA (by kernel_rfl) [5] [2, 6, 45, 46, 47, 48, 49, 50, 51, 52, 53, 54, 55, 56, 57, 58, 59, 60, 61, 62, 63, 64, 65, 66, 67, 68, 69, 70, 71, 72, 73, 74, 75, 76, 77, 78, 79, 80, 81, 82, 83, 84, 85, 86, 87] (fun i : Nat => [.int .i64 i]) (fun i h' => (i ≤ s.cells.length ∧ ∀ j, j < i → cellOkAt s.cells j = true) ∧ Pre h1 h') (fun i => s.cells.length - i) 0 (by kernel_rfl) ⟨⟨Nat.zero_le _, allTo_zero⟩, Pre.refl _⟩ ?_
    intro i g2 h2 hJ
    have hi := hJ.1.1
    have hj := hJ.1.2
    have hp2 := hJ.2
    clear hJ
    have p2 : Pre h h2 := p0.trans hp2
    have l2 : h.n < h2.n := Nat.lt_of_lt_of_le l1 hp2.n
    have e2 : h2.ob h.n = _ := (hp2.ob _ l1).trans e1
    simp (maxSteps := 1000000) -implicitDefEqProofs only [push_cast, seval, rd_of e2, rd1_of e2, l2]
    with_reducible refine bcase_d (fun hb => ?_) (fun hb => ?_)
    · have hi' : i < s.cells.length := by omega
      with_reducible refine hB.use big p2 hi' (fun id off eA hlt hr => ?_)
      subst eA
      simp only [Cell.enc] at hr
      have r0 := (rd_3 hr).1
      have r1 := (rd_3 hr).2.1
      have r2 := (rd_3 hr).2.2
      have hz' := (hz2 _ (List.getElem_mem hi')).1
      simp (maxSteps := 1000000) -implicitDefEqProofs only [push_cast, seval, hr, r0, r1, r2, hlt, rd_of e2, rd1_of e2, l2]
      refine And.intro (by omega) (And.intro (by omega) ?_)
      refine WC.draw' (by kernel_rfl) (by kernel_rfl) (.q 0 (.q 1 (.c 2 (.q 3 (.q 4 (.q 5 (.q 6 (.q 7 (.q 8 (.q 9 (.q 10 (.q 11 (.q 12 (.q 13 (.q 14 (.q 15 (.q 16 (.q 17 (.q 18 (.q 19 (.q 20 (.q 21 (.q 22 (.q 23 (.q 24 (.q 25 (.q 26 (.c 27 (.q 28 (.q 29 (.q 30 (.done)))))))))))))))))))))))))))))))) (by kernel_rfl) ?_
      simp (maxSteps := 1000000) -implicitDefEqProofs only [push_cast, seval, e2, hr, r0, r1, r2, hlt, rd_of e2, rd1_of e2, l2]
      have hv := cellOkAt_eq hi'
      rcases Nat.eq_zero_or_pos i with h0 | h0
      · repeat' (first | with_reducible (first | exact Keep.refl _ _ | assumption | exact byte_lt _ _ | apply Keep.alloc | (refine Keep.set ?_ ?_; rotate_left; · omega) | apply Pre.alloc | apply Pre.set | exact Pre.refl _ | exact le_alloc _ | (refine Pre.keep ?_; assumption) | (refine Pre.n ?_; assumption)) | ((with_reducible (first | refine CD.to (l07Name_c _ ?_ _) ?_ | refine CQ.pure (fun _ => l07Name_c _ ?_ _) ?_ | refine bcase_d (fun hb => ?_) (fun hb => ?_) | refine bcase_mk (fun hb => ?_) (fun hb => ?_))) <;> try simp (maxSteps := 1000000) -implicitDefEqProofs only [push_cast, seval, e2, hr, r0, r1, r2, hlt, rd_of e2, rd1_of e2, l2]) | with_reducible refine And.intro ?_ ?_ | omega | (simp only [alloc_n, set_n, kill_n]; omega) | (exfalso; omega))
        all_goals first
          | exact congrArg Value.bool (storeOk_c hi' (by rw [hv]; grind))
          | (rw [wrapSucc (by omega)]
             refine ⟨i + 1, by kernel_rfl, ⟨⟨by omega, allTo_succ hj (by rw [hv]; grind)⟩, ?_⟩, by omega⟩
             repeat' (first | with_reducible (first | exact Keep.refl _ _ | assumption | exact byte_lt _ _ | apply Keep.alloc | (refine Keep.set ?_ ?_; rotate_left; · omega) | apply Pre.alloc | apply Pre.set | exact Pre.refl _ | exact le_alloc _ | (refine Pre.keep ?_; assumption) | (refine Pre.n ?_; assumption)) | ((with_reducible (first | refine bcase_d (fun hb => ?_) (fun hb => ?_) | refine bcase_mk (fun hb => ?_) (fun hb => ?_))) <;> try simp (maxSteps := 1000000) -implicitDefEqProofs only [push_cast, seval]) | with_reducible refine And.intro ?_ ?_ | omega | (simp only [alloc_n, set_n, kill_n]; omega) | (exfalso; omega)))
      · have w1 := wrapPred h0 (by omega)
        have q0 := hB.rdAt big p2 (i := i - 1) (by omega)
        simp only [Cell.enc] at q0
        have hn0 : ¬ i = 0 := by omega
        repeat' (first | with_reducible (first | exact Keep.refl _ _ | assumption | exact byte_lt _ _ | apply Keep.alloc | (refine Keep.set ?_ ?_; rotate_left; · omega) | apply Pre.alloc | apply Pre.set | exact Pre.refl _ | exact le_alloc _ | (refine Pre.keep ?_; assumption) | (refine Pre.n ?_; assumption)) | ((with_reducible (first | refine CD.to (l07Name_c _ ?_ _) ?_ | refine CQ.pure (fun _ => l07Name_c _ ?_ _) ?_ | refine CD.to (l08Ahead_c _ _ _) ?_ | refine CQ.pure (fun _ => l08Ahead_c _ _ _) ?_ | refine bcase_d (fun hb => ?_) (fun hb => ?_) | refine bcase_mk (fun hb => ?_) (fun hb => ?_))) <;> try simp (maxSteps := 1000000) -implicitDefEqProofs only [push_cast, seval, e2, hr, r0, r1, r2, hlt, rd_of e2, rd1_of e2, l2, w1, q0]) | with_reducible refine And.intro ?_ ?_ | omega | (simp only [alloc_n, set_n, kill_n]; omega) | (exfalso; omega))
        all_goals first
          | exact congrArg Value.bool (storeOk_c hi' (by rw [hv]; grind))
          | (rw [wrapSucc (by omega)]
             refine ⟨i + 1, by kernel_rfl, ⟨⟨by omega, allTo_succ hj (by rw [hv]; grind)⟩, ?_⟩, by omega⟩
             repeat' (first | with_reducible (first | exact Keep.refl _ _ | assumption | exact byte_lt _ _ | apply Keep.alloc | (refine Keep.set ?_ ?_; rotate_left; · omega) | apply Pre.alloc | apply Pre.set | exact Pre.refl _ | exact le_alloc _ | (refine Pre.keep ?_; assumption) | (refine Pre.n ?_; assumption)) | ((with_reducible (first | refine bcase_d (fun hb => ?_) (fun hb => ?_) | refine bcase_mk (fun hb => ?_) (fun hb => ?_))) <;> try simp (maxSteps := 1000000) -implicitDefEqProofs only [push_cast, seval]) | with_reducible refine And.intro ?_ ?_ | omega | (simp only [alloc_n, set_n, kill_n]; omega) | (exfalso; omega)))
         
    · simp (maxSteps := 1000000) -implicitDefEqProofs only [push_cast, seval, rd_of e2, rd1_of e2, l2]
      have hC : allN s.cells.length (cellOkAt s.cells) = true := allN_iff.2 (fun j hj' => hj j (by omega))
      repeat' (first | with_reducible (first | exact Keep.refl _ _ | assumption | exact byte_lt _ _ | apply Keep.alloc | (refine Keep.set ?_ ?_; rotate_left; · omega) | apply Pre.alloc | apply Pre.set | exact Pre.refl _ | exact le_alloc _ | (refine Pre.keep ?_; assumption) | (refine Pre.n ?_; assumption)) | ((with_reducible (first | refine bcase_d (fun hb => ?_) (fun hb => ?_) | refine bcase_mk (fun hb => ?_) (fun hb => ?_))) <;> try simp (maxSteps := 1000000) -implicitDefEqProofs only [push_cast, seval, rd_of e2, rd1_of e2, l2]) | with_reducible refine And.intro ?_ ?_ | omega | (simp only [alloc_n, set_n, kill_n]; omega) | (exfalso; omega))
      all_goals first | (simp only [storeOk, hV, hC]; grind)
end Go.Proofs.Ytfbcedjheempfaa
namespace Go.Proofs.Ytfbcedjheempfaa
open Go Go.Sim Go.Proofs
set_option linter.unusedSimpArgs false
set_option linter.unusedVariables false
set_option maxRecDepth 100000
set_option maxHeartbeats 1000000
theorem StoreText_s (s : Store) (A B : Option Addr) (ca cb : Nat) (h : AH) (hR : RdS h A B s) (hz : Sz s) :
    CD Try.prog 36 [.agg #[.slice A s.vars.length ca, .slice B s.cells.length cb, .string s.out]] h (.tuple #[.string (if storeOk s = true then storeT s else ⟨#[]⟩), .bool (storeOk s)]) h := by
  refine CD.withBig (fun big => ?_)
  refine CD.quiet ?_ (low_tuple (by simp [low_string, low_bool]))
  have hA := hR.vars
  have hB := hR.cells
  have pb : Pre h (h.alloc (AOb.cells [Value.slice A s.vars.length ca, Value.slice B s.cells.length cb, Value.string s.out] Stat.solo h.n)) := (Pre.refl _).alloc _
  have hO := StoreOk_s s A B ca cb _ ⟨hR.vars.pre big pb, hR.cells.pre big pb⟩ hz
  cases hok : storeOk s with
  | false =>
    rw [hok] at hO
    refine CC.ofN Try.func36 Try.ntmps36 Try.results36 rfl (by decide) (by kernel_rfl) ?_
    simp (maxSteps := 1000000) -implicitDefEqProofs only [push_cast, seval]
    repeat' (first | with_reducible (first | exact Keep.refl _ _ | assumption | exact byte_lt _ _ | apply Keep.alloc | (refine Keep.set ?_ ?_; rotate_left; · omega) | apply Pre.alloc | apply Pre.set | exact Pre.refl _ | exact le_alloc _ | (refine Pre.keep ?_; assumption) | (refine Pre.n ?_; assumption)) | ((with_reducible (first | refine CD.to (hO) ?_ | refine CQ.pure (fun _ => hO) ?_ | refine bcase_d (fun hb => ?_) (fun hb => ?_) | refine bcase_mk (fun hb => ?_) (fun hb => ?_))) <;> try simp (maxSteps := 1000000) -implicitDefEqProofs only [push_cast, seval]) | with_reducible refine And.intro ?_ ?_ | omega | (simp only [alloc_n, set_n, kill_n]; omega) | (exfalso; omega))
    all_goals rfl
  | true =>
    rw [hok] at hO
    have hl := storeOk_len hok
    have zn1 := vt_size (n := (s.vars.length : Nat)) (by omega)
    have zn2 := vt_size (n := (s.cells.length : Nat)) (by omega)
    refine CC.ofN Try.func36 Try.ntmps36 Try.results36 rfl (by decide) (by kernel_rfl) ?_
    simp (maxSteps := 1000000) -implicitDefEqProofs only [push_cast, seval]
    repeat' (first | with_reducible (first | exact Keep.refl _ _ | assumption | exact byte_lt _ _ | apply Keep.alloc | (refine Keep.set ?_ ?_; rotate_left; · omega) | apply Pre.alloc | apply Pre.set | exact Pre.refl _ | exact le_alloc _ | (refine Pre.keep ?_; assumption) | (refine Pre.n ?_; assumption)) | ((with_reducible (first | refine CD.to (hO) ?_ | refine CQ.pure (fun _ => hO) ?_ | refine bcase_d (fun hb => ?_) (fun hb => ?_) | refine bcase_mk (fun hb => ?_) (fun hb => ?_))) <;> try simp (maxSteps := 1000000) -implicitDefEqProofs only [push_cast, seval]) | with_reducible refine And.intro ?_ ?_ | omega | (simp only [alloc_n, set_n, kill_n]; omega) | (exfalso; omega))
    with_reducible refine CD.to (l01Var_c _ (by omega) _) ?_
    simp (maxSteps := 1000000) -implicitDefEqProofs only [push_cast, seval]
    refine WC.loopA (by kernel_rfl) [4, 5] [14, 15, 16, 17, 18, 19, 20, 21, 22, 23, 24, 25, 26, 27, 28, 29, 30, 31, 32, 33, 34, 35, 36, 37] (fun a : Nat × ByteArray => [.string a.2, .int .i64 (a.1 : Nat)]) (fun a h' => a.1 ≤ s.vars.length ∧ a.2 = vt (s.vars.length : Nat) ++ varsT s.vars a.1 ∧ h' = (h.alloc (AOb.cells [Value.slice A s.vars.length ca, Value.slice B s.cells.length cb, Value.string s.out] Stat.solo h.n))) (fun a => s.vars.length - a.1) (0, vt (s.vars.length : Nat)) (by kernel_rfl) ⟨Nat.zero_le _, by rw [varsT_zero, app_empty], rfl⟩ ?_
    intro a g h1 hJ
    have hi := hJ.1
    have ha := hJ.2.1
    have hh := hJ.2.2
    clear hJ
    subst hh
    simp (maxSteps := 1000000) -implicitDefEqProofs only [push_cast, seval]
    with_reducible refine bcase_d (fun hb => ?_) (fun hb => ?_)
    · have hi' : a.1 < s.vars.length := by omega
      with_reducible refine hA.use big pb hi' (fun id off eA hlt hr => ?_)
      subst eA
      simp only [Var.enc] at hr
      have r0 := (rd_2 hr).1
      have r1 := (rd_2 hr).2
      have hq := varOk_size hok hi'
      have z1 := varsT_size hok a.1 hi
      have z2 := short_size s.vars[a.1].name (by omega)
      have z3 := short_size s.vars[a.1].val (by omega)
      have z4 : a.2.size = (vt (s.vars.length : Nat)).size + (varsT s.vars a.1).size := by rw [ha, ByteArray.size_append]
      simp (maxSteps := 1000000) -implicitDefEqProofs only [push_cast, seval]
      refine WC.draw' (by kernel_rfl) (by kernel_rfl) (.q 0 (.q 1 (.q 2 (.q 3 (.q 4 (.q 5 (.q 6 (.q 9 (.q 10 (.q 11 (.q 12 (.q 13 (.q 14 (.c 7 (.q 8 (.c 15 (.q 16 (.q 17 (.done))))))))))))))))))) (by kernel_rfl) ?_
      simp (maxSteps := 1000000) -implicitDefEqProofs only [push_cast, seval, hr, r0, r1, hlt]
      repeat' (first | with_reducible (first | exact Keep.refl _ _ | assumption | exact byte_lt _ _ | apply Keep.alloc | (refine Keep.set ?_ ?_; rotate_left; · omega) | apply Pre.alloc | apply Pre.set | exact Pre.refl _ | exact le_alloc _ | (refine Pre.keep ?_; assumption) | (refine Pre.n ?_; assumption)) | ((with_reducible (first | refine CD.to (l07Short_c _ ?_ _) ?_ | refine CQ.pure (fun _ => l07Short_c _ ?_ _) ?_ | refine bcase_d (fun hb => ?_) (fun hb => ?_) | refine bcase_mk (fun hb => ?_) (fun hb => ?_))) <;> try simp (maxSteps := 1000000) -implicitDefEqProofs only [push_cast, seval, hr, r0, r1, hlt, ByteArray.size_append]) | with_reducible refine And.intro ?_ ?_ | omega | (simp only [alloc_n, set_n, kill_n]; omega) | (exfalso; omega))
      rw [wrapSucc (by omega)]
      refine ⟨(a.1 + 1, a.2 ++ short s.vars[a.1].name ++ short s.vars[a.1].val), by kernel_rfl, ⟨by show a.1 + 1 ≤ s.vars.length; omega, ?_⟩, by show s.vars.length - (a.1 + 1) < s.vars.length - a.1; omega⟩
      show _ = vt (s.vars.length : Nat) ++ varsT s.vars (a.1 + 1)
      rw [varsT_succ hi', Var.txt, ha]
      simp only [ByteArray.append_assoc]
    · have hn : a.1 = s.vars.length := by omega
      rw [hn] at ha
      have z1 := varsT_size hok s.vars.length (Nat.le_refl _)
      have z4 : a.2.size = (vt (s.vars.length : Nat)).size + (varsT s.vars s.vars.length).size := by rw [ha, ByteArray.size_append]
      clear hi hb
      simp (maxSteps := 1000000) -implicitDefEqProofs only [push_cast, seval]
      with_reducible refine CD.to (l01Var_c _ (by omega) _) ?_
      simp (maxSteps := 1000000) -implicitDefEqProofs only [push_cast, seval]
      refine And.intro (by omega) ?_
      with_reducible refine nameB (a.2 ++ vt (s.cells.length : Nat)) (fun b0 hb0 => ?_)
      rw [← hb0]
      have zb : b0.size = a.2.size + (vt (s.cells.length : Nat)).size := by rw [hb0, ByteArray.size_append]
      refine WC.loopA (by kernel_rfl) [4, 6] [44, 45, 46, 47, 48, 49, 50, 51, 52, 53, 54, 55, 56, 57, 58, 59, 60, 61, 62, 63, 64, 65, 66, 67, 68, 69, 70, 71, 72, 73, 74, 75] (fun c : Nat × ByteArray => [.string c.2, .int .i64 (c.1 : Nat)]) (fun c h' => c.1 ≤ s.cells.length ∧ c.2 = b0 ++ cellsT s.cells c.1 ∧ h' = (h.alloc (AOb.cells [Value.slice A s.vars.length ca, Value.slice B s.cells.length cb, Value.string s.out] Stat.solo h.n))) (fun c => s.cells.length - c.1) (0, b0) (by kernel_rfl) ⟨Nat.zero_le _, by rw [cellsT_zero, app_empty], rfl⟩ ?_
      intro c g2 h2 hJ
      have hi := hJ.1
      have hc := hJ.2.1
      have hh := hJ.2.2
      clear hJ
      subst hh
      simp (maxSteps := 1000000) -implicitDefEqProofs only [push_cast, seval]
      with_reducible refine bcase_d (fun hb => ?_) (fun hb => ?_)
      · have hi' : c.1 < s.cells.length := by omega
        with_reducible refine hB.use big pb hi' (fun id off eA hlt hr => ?_)
        subst eA
        simp only [Cell.enc] at hr
        have r0 := (rd_3 hr).1
        have r1 := (rd_3 hr).2.1
        have r2 := (rd_3 hr).2.2
        have hq := cellOk_size hok hi'
        have y1 := cellsT_size hok c.1 hi
        have y2 := short_size s.cells[c.1].name (by omega)
        have y3 := short_size s.cells[c.1].key (by omega)
        have y5 := short_size s.cells[c.1].val (by omega)
        have y4 : c.2.size = b0.size + (cellsT s.cells c.1).size := by rw [hc, ByteArray.size_append]
        simp (maxSteps := 1000000) -implicitDefEqProofs only [push_cast, seval]
        refine WC.draw' (by kernel_rfl) (by kernel_rfl) (.q 0 (.q 1 (.q 2 (.q 3 (.q 4 (.q 5 (.q 6 (.q 9 (.q 10 (.q 11 (.q 12 (.q 13 (.q 14 (.q 17 (.q 18 (.q 19 (.q 20 (.q 21 (.q 22 (.c 7 (.q 8 (.c 15 (.q 16 (.c 23 (.q 24 (.q 25 (.done))))))))))))))))))))))))))) (by kernel_rfl) ?_
        simp (maxSteps := 1000000) -implicitDefEqProofs only [push_cast, seval, hr, r0, r1, r2, hlt]
        repeat' (first | with_reducible (first | exact Keep.refl _ _ | assumption | exact byte_lt _ _ | apply Keep.alloc | (refine Keep.set ?_ ?_; rotate_left; · omega) | apply Pre.alloc | apply Pre.set | exact Pre.refl _ | exact le_alloc _ | (refine Pre.keep ?_; assumption) | (refine Pre.n ?_; assumption)) | ((with_reducible (first | refine CD.to (l07Short_c _ ?_ _) ?_ | refine CQ.pure (fun _ => l07Short_c _ ?_ _) ?_ | refine bcase_d (fun hb => ?_) (fun hb => ?_) | refine bcase_mk (fun hb => ?_) (fun hb => ?_))) <;> try simp (maxSteps := 1000000) -implicitDefEqProofs only [push_cast, seval, hr, r0, r1, r2, hlt, ByteArray.size_append]) | with_reducible refine And.intro ?_ ?_ | omega | (simp only [alloc_n, set_n, kill_n]; omega) | (exfalso; omega))
        rw [wrapSucc (by omega)]
        refine ⟨(c.1 + 1, c.2 ++ short s.cells[c.1].name ++ short s.cells[c.1].key ++ short s.cells[c.1].val), by kernel_rfl, ⟨by show c.1 + 1 ≤ s.cells.length; omega, ?_⟩, by show s.cells.length - (c.1 + 1) < s.cells.length - c.1; omega⟩
        show _ = b0 ++ cellsT s.cells (c.1 + 1)
        rw [cellsT_succ hi', Cell.txt, hc]
        simp only [ByteArray.append_assoc]
      · have hn2 : c.1 = s.cells.length := by omega
        rw [hn2] at hc
        have y1 := cellsT_size hok s.cells.length (Nat.le_refl _)
        have y4 : c.2.size = b0.size + (cellsT s.cells s.cells.length).size := by rw [hc, ByteArray.size_append]
        have y2 := short_size s.out (by omega)
        simp (maxSteps := 1000000) -implicitDefEqProofs only [push_cast, seval]
        repeat' (first | with_reducible (first | exact Keep.refl _ _ | assumption | exact byte_lt _ _ | apply Keep.alloc | (refine Keep.set ?_ ?_; rotate_left; · omega) | apply Pre.alloc | apply Pre.set | exact Pre.refl _ | exact le_alloc _ | (refine Pre.keep ?_; assumption) | (refine Pre.n ?_; assumption)) | ((with_reducible (first | refine CD.to (l07Short_c _ ?_ _) ?_ | refine CQ.pure (fun _ => l07Short_c _ ?_ _) ?_ | refine bcase_d (fun hb => ?_) (fun hb => ?_) | refine bcase_mk (fun hb => ?_) (fun hb => ?_))) <;> try simp (maxSteps := 1000000) -implicitDefEqProofs only [push_cast, seval]) | with_reducible refine And.intro ?_ ?_ | omega | (simp only [alloc_n, set_n, kill_n]; omega) | (exfalso; omega))
        rw [storeT, hc, hb0, ha]
end Go.Proofs.Ytfbcedjheempfaa
namespace Go.Proofs.Ytfbcedjheempfaa
open Go Go.Sim Go.Proofs
set_option linter.unusedSimpArgs false
set_option linter.unusedVariables false
set_option maxRecDepth 100000
set_option maxHeartbeats 1000000
theorem StoreText_i (s : Store) (A B : Option Addr) (ca cb : Nat) (h : AH) (hR : RdS h A B s) (hz : Sz s) :
    CD Try.prog 42 [.agg #[.slice A s.vars.length ca, .slice B s.cells.length cb, .string s.out]] h (.tuple #[.string (if storeOk s = true then storeT s else ⟨#[]⟩), .bool (storeOk s)]) h := by
  refine CD.withBig (fun big => ?_)
  refine CD.quiet ?_ (low_tuple (by simp [low_string, low_bool]))
  have hA := hR.vars
  have hB := hR.cells
  have pb : Pre h (h.alloc (AOb.cells [Value.slice A s.vars.length ca, Value.slice B s.cells.length cb, Value.string s.out] Stat.solo h.n)) := (Pre.refl _).alloc _
  have hO := StoreOk_i s A B ca cb _ ⟨hR.vars.pre big pb, hR.cells.pre big pb⟩ hz
  cases hok : storeOk s with
  | false =>
    rw [hok] at hO
    refine CC.ofN Try.func42 Try.ntmps42 Try.results42 rfl (by decide) (by kernel_rfl) ?_
    simp (maxSteps := 1000000) -implicitDefEqProofs only [push_cast, seval]
    repeat' (first | with_reducible (first | exact Keep.refl _ _ | assumption | exact byte_lt _ _ | apply Keep.alloc | (refine Keep.set ?_ ?_; rotate_left; · omega) | apply Pre.alloc | apply Pre.set | exact Pre.refl _ | exact le_alloc _ | (refine Pre.keep ?_; assumption) | (refine Pre.n ?_; assumption)) | ((with_reducible (first | refine CD.to (hO) ?_ | refine CQ.pure (fun _ => hO) ?_ | refine bcase_d (fun hb => ?_) (fun hb => ?_) | refine bcase_mk (fun hb => ?_) (fun hb => ?_))) <;> try simp (maxSteps := 1000000) -implicitDefEqProofs only [push_cast, seval]) | with_reducible refine And.intro ?_ ?_ | omega | (simp only [alloc_n, set_n, kill_n]; omega) | (exfalso; omega))
    all_goals rfl
  | true =>
    rw [hok] at hO
    have hl := storeOk_len hok
    have zn1 := vt_size (n := (s.vars.length : Nat)) (by omega)
    have zn2 := vt_size (n := (s.cells.length : Nat)) (by omega)
    refine CC.ofN Try.func42 Try.ntmps42 Try.results42 rfl (by decide) (by kernel_rfl) ?_
    simp (maxSteps := 1000000) -implicitDefEqProofs only [push_cast, seval]
    repeat' (first | with_reducible (first | exact Keep.refl _ _ | assumption | exact byte_lt _ _ | apply Keep.alloc | (refine Keep.set ?_ ?_; rotate_left; · omega) | apply Pre.alloc | apply Pre.set | exact Pre.refl _ | exact le_alloc _ | (refine Pre.keep ?_; assumption) | (refine Pre.n ?_; assumption)) | ((with_reducible (first | refine CD.to (hO) ?_ | refine CQ.pure (fun _ => hO) ?_ | refine bcase_d (fun hb => ?_) (fun hb => ?_) | refine bcase_mk (fun hb => ?_) (fun hb => ?_))) <;> try simp (maxSteps := 1000000) -implicitDefEqProofs only [push_cast, seval]) | with_reducible refine And.intro ?_ ?_ | omega | (simp only [alloc_n, set_n, kill_n]; omega) | (exfalso; omega))
    with_reducible refine CD.to (numberText_c _ (by omega) _) ?_
    simp (maxSteps := 1000000) -implicitDefEqProofs only [push_cast, seval]
    repeat (with_reducible refine And.intro ?_ ?_; · (first | omega | decide))
    refine WC.loopA (by kernel_rfl) [4, 20] [6, 21, 22, 23, 24, 25, 26, 27, 28, 29, 30, 31, 32, 33] (fun a : Nat × Value => [a.2, .int .i64 (a.1 : Nat)]) (fun a h' => a.1 ≤ s.vars.length ∧ Gr (h.n + 1) h' a.2 1 (bytesV (vt (s.vars.length : Nat) ++ varsT s.vars a.1)) ∧ Pre (h.alloc (AOb.cells [Value.slice A s.vars.length ca, Value.slice B s.cells.length cb, Value.string s.out] Stat.solo h.n)) h') (fun a => s.vars.length - a.1) (0, .slice (some ⟨h.n + 1, 0, none⟩) (vt (s.vars.length : Nat)).size 1) (by kernel_rfl) ⟨Nat.zero_le _, by rw [varsT_zero, app_empty]; exact Gr.new (h := h.alloc _) (Nat.le_refl _) _ _ 1 (by rw [bytesV_len, Nat.mul_one]), (Pre.refl _).alloc _⟩ ?_
    intro a g h1 hJ
    have hi := hJ.1
    have ho := hJ.2.1
    have hp := hJ.2.2
    clear hJ
    have p0 : Pre h h1 := pb.trans hp
    have l1 : h.n < h1.n := Nat.lt_of_lt_of_le (lt_alloc _) hp.n
    have e1 : h1.ob h.n = _ := (hp.ob _ (lt_alloc _)).trans (alloc_same _)
    simp (maxSteps := 1000000) -implicitDefEqProofs only [push_cast, seval]
    with_reducible refine bcase_d (fun hb => ?_) (fun hb => ?_)
    · have hi' : a.1 < s.vars.length := by omega
      with_reducible refine hA.use big p0 hi' (fun id off eA hlt hr => ?_)
      subst eA
      simp only [Var.enc] at hr
      have r0 := (rd_2 hr).1
      have r1 := (rd_2 hr).2
      have hq := varOk_size hok hi'
      have z1 := varsT_size hok a.1 hi
      have z2 := short_size s.vars[a.1].name (by omega)
      have z3 := short_size s.vars[a.1].val (by omega)
      have z6 := short_pos s.vars[a.1].name
      simp (maxSteps := 1000000) -implicitDefEqProofs only [push_cast, seval, hr, r0, r1, hlt, l1]
      repeat (with_reducible refine And.intro ?_ ?_; · (first | omega | decide))
      refine WC.draw' (by kernel_rfl) (by kernel_rfl) (.q 0 (.q 1 (.q 2 (.q 4 (.q 5 (.c 3 (.c 6 (.q 7 (.a 8 false (.q 9 (.done))))))))))) (by kernel_rfl) ?_
      simp (maxSteps := 1000000) -implicitDefEqProofs only [push_cast, seval, hr, r0, r1, hlt, l1]
      repeat' (first | with_reducible (first | exact Keep.refl _ _ | assumption | exact byte_lt _ _ | apply Keep.alloc | (refine Keep.set ?_ ?_; rotate_left; · omega) | apply Pre.alloc | apply Pre.set | exact Pre.refl _ | exact le_alloc _ | (refine Pre.keep ?_; assumption) | (refine Pre.n ?_; assumption)) | ((with_reducible (first | refine CD.to (shortOf_c _ ?_ _) ?_ | refine CQ.pure (fun _ => shortOf_c _ ?_ _) ?_ | refine bcase_d (fun hb => ?_) (fun hb => ?_) | refine bcase_mk (fun hb => ?_) (fun hb => ?_))) <;> try simp (maxSteps := 1000000) -implicitDefEqProofs only [push_cast, seval, hr, r0, r1, hlt, ByteArray.size_append, l1]) | with_reducible refine And.intro ?_ ?_ | omega | (simp only [alloc_n, set_n, kill_n]; omega) | (exfalso; omega))
      have p12 : Pre h1 ((h1.alloc (AOb.cells [Value.string ⟨#[]⟩, Value.string ⟨#[]⟩] Stat.solo h1.n)).set h1.n (AOb.cells [Value.string s.vars[a.1].name, Value.string s.vars[a.1].val] Stat.solo h1.n)) := ((Pre.refl _).alloc _).set (Nat.le_refl _) _
      have ho' : Gr (h.alloc (AOb.cells [Value.slice (some ⟨id, off, none⟩) s.vars.length ca, Value.slice B s.cells.length cb, Value.string s.out] Stat.solo h.n)).n h1 a.2 1 _ := ho
      have zl : (short s.vars[a.1].name ++ short s.vars[a.1].val).size = (short s.vars[a.1].name).size + (short s.vars[a.1].val).size := ByteArray.size_append
      have zl2 : (vt (s.vars.length : Nat) ++ varsT s.vars a.1).size = (vt (s.vars.length : Nat)).size + (varsT s.vars a.1).size := ByteArray.size_append
      with_reducible refine Gr.app (n0 := 0) si29 (by decide) (by decide) (notInt_str und9) (ho'.pre p12) (hp.trans p12) (asrc_str _) ?_ ?_ ?_ (fun h' gr ow p' hn' he => ?_)
      · rw [bytesV_len, Nat.mul_one]
      · rw [bytesV_len]; omega
      · omega
      have hk : h'.ob h1.n = AOb.cells [Value.string s.vars[a.1].name, Value.string s.vars[a.1].val] Stat.solo h1.n := (he h1.n (by show h1.n < h1.n + 1; omega) ho.not_new).trans (set_same _ _)
      simp (maxSteps := 1000000) -implicitDefEqProofs only [push_cast, seval, hk]
      rw [wrapSucc (by omega)]
      refine ⟨(a.1 + 1, .slice (some ⟨h1.n + 1, 0, none⟩) ((bytesV (vt (s.vars.length : Nat) ++ varsT s.vars a.1)).length / 1 + (short s.vars[a.1].name ++ short s.vars[a.1].val).size) 1), by kernel_rfl, ⟨by show a.1 + 1 ≤ s.vars.length; omega, ?_, p'⟩, by show s.vars.length - (a.1 + 1) < s.vars.length - a.1; omega⟩
      show Gr (h.n + 1) h' _ 1 (bytesV (vt (s.vars.length : Nat) ++ varsT s.vars (a.1 + 1)))
      rw [varsT_succ hi', Var.txt, app_assoc, bytesV_append (vt (s.vars.length : Nat) ++ varsT s.vars a.1)]
      exact gr
    · have hn : a.1 = s.vars.length := by omega
      rw [hn] at ho
      have z1 := varsT_size hok s.vars.length (Nat.le_refl _)
      clear hi hb
      simp (maxSteps := 1000000) -implicitDefEqProofs only [push_cast, seval, rd_of e1, rd1_of e1, l1]
      with_reducible refine CD.to (numberText_c _ (by omega) _) ?_
      simp (maxSteps := 1000000) -implicitDefEqProofs only [push_cast, seval]
      have zp := vt_pos (s.cells.length : Nat)
      have ho' : Gr (h.alloc (AOb.cells [Value.slice A s.vars.length ca, Value.slice B s.cells.length cb, Value.string s.out] Stat.solo h.n)).n h1 a.2 1 _ := ho
      have zl2 : (vt (s.vars.length : Nat) ++ varsT s.vars s.vars.length).size = (vt (s.vars.length : Nat)).size + (varsT s.vars s.vars.length).size := ByteArray.size_append
      with_reducible refine Gr.app (n0 := 0) si29 (by decide) (by decide) (notInt_str und9) ho' hp (asrc_str _) ?_ ?_ ?_ (fun h3 gr ow p3 hn3 he => ?_)
      · rw [bytesV_len, Nat.mul_one]
      · rw [bytesV_len]; omega
      · omega
      rw [← bytesV_append] at gr
      with_reducible refine nameB (vt (s.vars.length : Nat) ++ varsT s.vars s.vars.length ++ vt (s.cells.length : Nat)) (fun b0 hb0 => ?_)
      rw [← hb0] at gr
      have zb : b0.size = (vt (s.vars.length : Nat)).size + (varsT s.vars s.vars.length).size + (vt (s.cells.length : Nat)).size := by rw [hb0, ByteArray.size_append, ByteArray.size_append]
      have p03 : Pre h h3 := pb.trans p3
      have l3 : h.n < h3.n := Nat.lt_of_lt_of_le (lt_alloc _) p3.n
      have e3 : h3.ob h.n = _ := (p3.ob _ (lt_alloc _)).trans (alloc_same _)
      simp (maxSteps := 1000000) -implicitDefEqProofs only [push_cast, seval, rd_of e3, rd1_of e3, l3]
      refine WC.loopA (by kernel_rfl) [4, 43] [8, 44, 45, 46, 47, 48, 49, 50, 51, 52, 53, 54, 55, 56, 57, 58, 59, 60] (fun c : Nat × Value => [c.2, .int .i64 (c.1 : Nat)]) (fun c h' => c.1 ≤ s.cells.length ∧ Gr (h.n + 1) h' c.2 1 (bytesV (b0 ++ cellsT s.cells c.1)) ∧ Pre (h.alloc (AOb.cells [Value.slice A s.vars.length ca, Value.slice B s.cells.length cb, Value.string s.out] Stat.solo h.n)) h') (fun c => s.cells.length - c.1) (0, _) (by kernel_rfl) ⟨Nat.zero_le _, by rw [cellsT_zero, app_empty]; exact gr, p3⟩ ?_
      intro c g2 h2 hJ
      have hi := hJ.1
      have hc := hJ.2.1
      have hp2 := hJ.2.2
      clear hJ
      have p2 : Pre h h2 := pb.trans hp2
      have l2 : h.n < h2.n := Nat.lt_of_lt_of_le (lt_alloc _) hp2.n
      have e2 : h2.ob h.n = _ := (hp2.ob _ (lt_alloc _)).trans (alloc_same _)
      simp (maxSteps := 1000000) -implicitDefEqProofs only [push_cast, seval]
      with_reducible refine bcase_d (fun hb => ?_) (fun hb => ?_)
      · have hi' : c.1 < s.cells.length := by omega
        with_reducible refine hB.use big p2 hi' (fun id off eA hlt hr => ?_)
        subst eA
        simp only [Cell.enc] at hr
        have r0 := (rd_3 hr).1
        have r1 := (rd_3 hr).2.1
        have r2 := (rd_3 hr).2.2
        have hq := cellOk_size hok hi'
        have y1 := cellsT_size hok c.1 hi
        have y2 := short_size s.cells[c.1].name (by omega)
        have y3 := short_size s.cells[c.1].key (by omega)
        have y5 := short_size s.cells[c.1].val (by omega)
        have y6 := short_pos s.cells[c.1].name
        simp (maxSteps := 1000000) -implicitDefEqProofs only [push_cast, seval, hr, r0, r1, r2, hlt, l2]
        repeat (with_reducible refine And.intro ?_ ?_; · (first | omega | decide))
        refine WC.draw' (by kernel_rfl) (by kernel_rfl) (.q 0 (.q 1 (.q 2 (.q 4 (.q 5 (.q 8 (.q 9 (.c 3 (.c 6 (.q 7 (.c 10 (.q 11 (.a 12 false (.q 13 (.done))))))))))))))) (by kernel_rfl) ?_
        simp (maxSteps := 1000000) -implicitDefEqProofs only [push_cast, seval, hr, r0, r1, r2, hlt, l2]
        repeat' (first | with_reducible (first | exact Keep.refl _ _ | assumption | exact byte_lt _ _ | apply Keep.alloc | (refine Keep.set ?_ ?_; rotate_left; · omega) | apply Pre.alloc | apply Pre.set | exact Pre.refl _ | exact le_alloc _ | (refine Pre.keep ?_; assumption) | (refine Pre.n ?_; assumption)) | ((with_reducible (first | refine CD.to (shortOf_c _ ?_ _) ?_ | refine CQ.pure (fun _ => shortOf_c _ ?_ _) ?_ | refine bcase_d (fun hb => ?_) (fun hb => ?_) | refine bcase_mk (fun hb => ?_) (fun hb => ?_))) <;> try simp (maxSteps := 1000000) -implicitDefEqProofs only [push_cast, seval, hr, r0, r1, r2, hlt, ByteArray.size_append, l2]) | with_reducible refine And.intro ?_ ?_ | omega | (simp only [alloc_n, set_n, kill_n]; omega) | (exfalso; omega))
        have p12 : Pre h2 ((h2.alloc (AOb.cells [Value.string ⟨#[]⟩, Value.string ⟨#[]⟩, Value.string ⟨#[]⟩] Stat.solo h2.n)).set h2.n (AOb.cells [Value.string s.cells[c.1].name, Value.string s.cells[c.1].key, Value.string s.cells[c.1].val] Stat.solo h2.n)) := ((Pre.refl _).alloc _).set (Nat.le_refl _) _
        have hc' : Gr (h.alloc (AOb.cells [Value.slice A s.vars.length ca, Value.slice (some ⟨id, off, none⟩) s.cells.length cb, Value.string s.out] Stat.solo h.n)).n h2 c.2 1 _ := hc
        have zl : (short s.cells[c.1].name ++ short s.cells[c.1].key ++ short s.cells[c.1].val).size = (short s.cells[c.1].name).size + (short s.cells[c.1].key).size + (short s.cells[c.1].val).size := by rw [ByteArray.size_append, ByteArray.size_append]
        have zl2 : (b0 ++ cellsT s.cells c.1).size = b0.size + (cellsT s.cells c.1).size := ByteArray.size_append
        with_reducible refine Gr.app (n0 := 0) si29 (by decide) (by decide) (notInt_str und9) (hc'.pre p12) (hp2.trans p12) (asrc_str _) ?_ ?_ ?_ (fun h' gr ow p' hn' he => ?_)
        · rw [bytesV_len, Nat.mul_one]
        · rw [bytesV_len]; omega
        · omega
        have hk : h'.ob h2.n = AOb.cells [Value.string s.cells[c.1].name, Value.string s.cells[c.1].key, Value.string s.cells[c.1].val] Stat.solo h2.n := (he h2.n (by show h2.n < h2.n + 1; omega) hc.not_new).trans (set_same _ _)
        simp (maxSteps := 1000000) -implicitDefEqProofs only [push_cast, seval, hk]
        rw [wrapSucc (by omega)]
        refine ⟨(c.1 + 1, .slice (some ⟨h2.n + 1, 0, none⟩) ((bytesV (b0 ++ cellsT s.cells c.1)).length / 1 + (short s.cells[c.1].name ++ short s.cells[c.1].key ++ short s.cells[c.1].val).size) 1), by kernel_rfl, ⟨by show c.1 + 1 ≤ s.cells.length; omega, ?_, p'⟩, by show s.cells.length - (c.1 + 1) < s.cells.length - c.1; omega⟩
        show Gr (h.n + 1) h' _ 1 (bytesV (b0 ++ cellsT s.cells (c.1 + 1)))
        rw [cellsT_succ hi', Cell.txt, app_assoc, bytesV_append (b0 ++ cellsT s.cells c.1)]
        exact gr
      · have hn2 : c.1 = s.cells.length := by omega
        rw [hn2] at hc
        have y1 := cellsT_size hok s.cells.length (Nat.le_refl _)
        have y2 := short_size s.out (by omega)
        have y6 := short_pos s.out
        clear hi hb
        simp (maxSteps := 1000000) -implicitDefEqProofs only [push_cast, seval, rd_of e2, rd1_of e2, l2]
        repeat' (first | with_reducible (first | exact Keep.refl _ _ | assumption | exact byte_lt _ _ | apply Keep.alloc | (refine Keep.set ?_ ?_; rotate_left; · omega) | apply Pre.alloc | apply Pre.set | exact Pre.refl _ | exact le_alloc _ | (refine Pre.keep ?_; assumption) | (refine Pre.n ?_; assumption)) | ((with_reducible (first | refine CD.to (shortOf_c _ ?_ _) ?_ | refine CQ.pure (fun _ => shortOf_c _ ?_ _) ?_ | refine bcase_d (fun hb => ?_) (fun hb => ?_) | refine bcase_mk (fun hb => ?_) (fun hb => ?_))) <;> try simp (maxSteps := 1000000) -implicitDefEqProofs only [push_cast, seval, rd_of e2, rd1_of e2, l2]) | with_reducible refine And.intro ?_ ?_ | omega | (simp only [alloc_n, set_n, kill_n]; omega) | (exfalso; omega))
        have hc' : Gr (h.alloc (AOb.cells [Value.slice A s.vars.length ca, Value.slice B s.cells.length cb, Value.string s.out] Stat.solo h.n)).n h2 c.2 1 _ := hc
        have zl2 : (b0 ++ cellsT s.cells s.cells.length).size = b0.size + (cellsT s.cells s.cells.length).size := ByteArray.size_append
        with_reducible refine Gr.app (n0 := 0) si29 (by decide) (by decide) (notInt_str und9) hc' hp2 (asrc_str _) ?_ ?_ ?_ (fun h4 gr ow p4 hn4 he => ?_)
        · rw [bytesV_len, Nat.mul_one]
        · rw [bytesV_len]; omega
        · omega
        have er := ow.rdAll
        rw [Nat.mul_one] at er
        have et : toBytes (bytesV (b0 ++ cellsT s.cells s.cells.length) ++ bytesV (short s.out)) = some (b0 ++ cellsT s.cells s.cells.length ++ short s.out).data.toList := by
          rw [← bytesV_append, toBytes_bytesV']
        simp (maxSteps := 1000000) -implicitDefEqProofs only [push_cast, seval, er, et]
        have pk : Pre h h4 := pb.trans p4
        refine ⟨?_, pk.keep⟩
        have e : (⟨(b0 ++ cellsT s.cells s.cells.length ++ short s.out).data.toList.toArray⟩ : ByteArray) = storeT s := by
          rw [storeT, hb0]
        rw [e]
end Go.Proofs.Ytfbcedjheempfaa
namespace Go.Proofs.Ytfbcedjheempfaa
open Go Go.Sim Go.Proofs
set_option linter.unusedSimpArgs false
set_option linter.unusedVariables false
set_option maxRecDepth 100000
set_option maxHeartbeats 1000000
theorem szVar_c (x : Var) (l : Int) (hx : x.name.size ≤ maxLen ∧ x.val.size ≤ maxLen) (hl : 0 ≤ l ∧ l ≤ 1048576) (h : AH) : CD Try.prog 114 [.agg #[.string x.name, .string x.val], .int .i64 l] h (.int .i64 (if l - x.name.size - x.val.size < 0 then -1 else l - x.name.size - x.val.size)) h := by
  refine CD.quiet ?_ (low_int _ _ _)
  have hm := maxLen_eq
  have w1 : IntKind.i64.wrap (l - (x.name.size : Int)) = l - (x.name.size : Int) := by rw [w64 (by omega) (by omega)]
  refine CC.ofN Try.func114 Try.ntmps114 Try.results114 rfl (by decide) (by kernel_rfl) ?_
  simp (maxSteps := 1000000) -implicitDefEqProofs only [push_cast, seval, w1]
  with_reducible refine bcase_d (fun hb => ?_) (fun hb => ?_)
  · simp (maxSteps := 1000000) -implicitDefEqProofs only [push_cast, seval]
    repeat' (first | with_reducible (first | exact Keep.refl _ _ | assumption | exact byte_lt _ _ | apply Keep.alloc | (refine Keep.set ?_ ?_; rotate_left; · omega) | apply Pre.alloc | apply Pre.set | exact Pre.refl _ | exact le_alloc _ | (refine Pre.keep ?_; assumption) | (refine Pre.n ?_; assumption)) | ((with_reducible (first | refine bcase_d (fun hb => ?_) (fun hb => ?_) | refine bcase_mk (fun hb => ?_) (fun hb => ?_))) <;> try simp (maxSteps := 1000000) -implicitDefEqProofs only [push_cast, seval]) | with_reducible refine And.intro ?_ ?_ | omega | (simp only [alloc_n, set_n, kill_n]; omega) | (exfalso; omega))
    all_goals grind
  have w2 : IntKind.i64.wrap (l - (x.name.size : Int) - (x.val.size : Int)) = l - (x.name.size : Int) - (x.val.size : Int) := by rw [w64 (by omega) (by omega)]
  simp (maxSteps := 1000000) -implicitDefEqProofs only [push_cast, seval, w2]
  repeat' (first | with_reducible (first | exact Keep.refl _ _ | assumption | exact byte_lt _ _ | apply Keep.alloc | (refine Keep.set ?_ ?_; rotate_left; · omega) | apply Pre.alloc | apply Pre.set | exact Pre.refl _ | exact le_alloc _ | (refine Pre.keep ?_; assumption) | (refine Pre.n ?_; assumption)) | ((with_reducible (first | refine bcase_d (fun hb => ?_) (fun hb => ?_) | refine bcase_mk (fun hb => ?_) (fun hb => ?_))) <;> try simp (maxSteps := 1000000) -implicitDefEqProofs only [push_cast, seval, w2]) | with_reducible refine And.intro ?_ ?_ | omega | (simp only [alloc_n, set_n, kill_n]; omega) | (exfalso; omega))
  all_goals grind
theorem szCell_c (x : Cell) (l : Int) (hx : x.name.size ≤ maxLen ∧ x.key.size ≤ maxLen ∧ x.val.size ≤ maxLen) (hl : 0 ≤ l ∧ l ≤ 1048576) (h : AH) : CD Try.prog 115 [.agg #[.string x.name, .string x.key, .string x.val], .int .i64 l] h (.int .i64 (if l - x.name.size - x.key.size - x.val.size < 0 then -1 else l - x.name.size - x.key.size - x.val.size)) h := by
  refine CD.quiet ?_ (low_int _ _ _)
  have hm := maxLen_eq
  have w1 : IntKind.i64.wrap (l - (x.name.size : Int)) = l - (x.name.size : Int) := by rw [w64 (by omega) (by omega)]
  refine CC.ofN Try.func115 Try.ntmps115 Try.results115 rfl (by decide) (by kernel_rfl) ?_
  simp (maxSteps := 1000000) -implicitDefEqProofs only [push_cast, seval, w1]
  with_reducible refine bcase_d (fun hb => ?_) (fun hb => ?_)
  · simp (maxSteps := 1000000) -implicitDefEqProofs only [push_cast, seval]
    repeat' (first | with_reducible (first | exact Keep.refl _ _ | assumption | exact byte_lt _ _ | apply Keep.alloc | (refine Keep.set ?_ ?_; rotate_left; · omega) | apply Pre.alloc | apply Pre.set | exact Pre.refl _ | exact le_alloc _ | (refine Pre.keep ?_; assumption) | (refine Pre.n ?_; assumption)) | ((with_reducible (first | refine bcase_d (fun hb => ?_) (fun hb => ?_) | refine bcase_mk (fun hb => ?_) (fun hb => ?_))) <;> try simp (maxSteps := 1000000) -implicitDefEqProofs only [push_cast, seval]) | with_reducible refine And.intro ?_ ?_ | omega | (simp only [alloc_n, set_n, kill_n]; omega) | (exfalso; omega))
    all_goals grind
  have w2 : IntKind.i64.wrap (l - (x.name.size : Int) - (x.key.size : Int)) = l - (x.name.size : Int) - (x.key.size : Int) := by rw [w64 (by omega) (by omega)]
  simp (maxSteps := 1000000) -implicitDefEqProofs only [push_cast, seval, w2]
  with_reducible refine bcase_d (fun hb => ?_) (fun hb => ?_)
  · simp (maxSteps := 1000000) -implicitDefEqProofs only [push_cast, seval]
    repeat' (first | with_reducible (first | exact Keep.refl _ _ | assumption | exact byte_lt _ _ | apply Keep.alloc | (refine Keep.set ?_ ?_; rotate_left; · omega) | apply Pre.alloc | apply Pre.set | exact Pre.refl _ | exact le_alloc _ | (refine Pre.keep ?_; assumption) | (refine Pre.n ?_; assumption)) | ((with_reducible (first | refine bcase_d (fun hb => ?_) (fun hb => ?_) | refine bcase_mk (fun hb => ?_) (fun hb => ?_))) <;> try simp (maxSteps := 1000000) -implicitDefEqProofs only [push_cast, seval]) | with_reducible refine And.intro ?_ ?_ | omega | (simp only [alloc_n, set_n, kill_n]; omega) | (exfalso; omega))
    all_goals grind
  have w3 : IntKind.i64.wrap (l - (x.name.size : Int) - (x.key.size : Int) - (x.val.size : Int)) = l - (x.name.size : Int) - (x.key.size : Int) - (x.val.size : Int) := by rw [w64 (by omega) (by omega)]
  simp (maxSteps := 1000000) -implicitDefEqProofs only [push_cast, seval, w3]
  repeat' (first | with_reducible (first | exact Keep.refl _ _ | assumption | exact byte_lt _ _ | apply Keep.alloc | (refine Keep.set ?_ ?_; rotate_left; · omega) | apply Pre.alloc | apply Pre.set | exact Pre.refl _ | exact le_alloc _ | (refine Pre.keep ?_; assumption) | (refine Pre.n ?_; assumption)) | ((with_reducible (first | refine bcase_d (fun hb => ?_) (fun hb => ?_) | refine bcase_mk (fun hb => ?_) (fun hb => ?_))) <;> try simp (maxSteps := 1000000) -implicitDefEqProofs only [push_cast, seval, w3]) | with_reducible refine And.intro ?_ ?_ | omega | (simp only [alloc_n, set_n, kill_n]; omega) | (exfalso; omega))
  all_goals grind
def varW (l : List Var) (i : Nat) : Nat := ((l.take i).map fun x => x.name.size + x.val.size).sum
theorem varW_zero (l : List Var) : varW l 0 = 0 := by simp [varW]
theorem varW_succ {l : List Var} {i : Nat} (h : i < l.length) : varW l (i + 1) = varW l i + (l[i].name.size + l[i].val.size) := by
  simp only [varW, List.take_add_one, List.getElem?_eq_getElem h, Option.toList_some, List.map_append, List.map_cons, List.map_nil, List.sum_append, List.sum_cons, List.sum_nil]; omega
theorem varW_mono {l : List Var} : ∀ {i j : Nat}, i ≤ j → j ≤ l.length → varW l i ≤ varW l j
  | i, 0, h, _ => by have : i = 0 := by omega
                     subst this; exact Nat.le_refl _
  | i, j + 1, h, hj => by
    by_cases e : i = j + 1
    · subst e; exact Nat.le_refl _
    · have := varW_mono (l := l) (i := i) (j := j) (by omega) (by omega)
      rw [varW_succ (by omega)]; omega
def cellW (l : List Cell) (i : Nat) : Nat := ((l.take i).map fun x => x.name.size + x.key.size + x.val.size).sum
theorem cellW_zero (l : List Cell) : cellW l 0 = 0 := by simp [cellW]
theorem cellW_succ {l : List Cell} {i : Nat} (h : i < l.length) : cellW l (i + 1) = cellW l i + (l[i].name.size + l[i].key.size + l[i].val.size) := by
  simp only [cellW, List.take_add_one, List.getElem?_eq_getElem h, Option.toList_some, List.map_append, List.map_cons, List.map_nil, List.sum_append, List.sum_cons, List.sum_nil]; omega
theorem cellW_mono {l : List Cell} : ∀ {i j : Nat}, i ≤ j → j ≤ l.length → cellW l i ≤ cellW l j
  | i, 0, h, _ => by have : i = 0 := by omega
                     subst this; exact Nat.le_refl _
  | i, j + 1, h, hj => by
    by_cases e : i = j + 1
    · subst e; exact Nat.le_refl _
    · have := cellW_mono (l := l) (i := i) (j := j) (by omega) (by omega)
      rw [cellW_succ (by omega)]; omega
theorem szVarS_c (vs : List Var) (A : Option Addr) (ca : Nat) (l : Int) (h : AH) (hR : RdE h A 2 Var.enc vs) (hz : ∀ x ∈ vs, x.name.size ≤ maxLen ∧ x.val.size ≤ maxLen) (hn : vs.length ≤ maxLen) (hl : 0 ≤ l ∧ l ≤ 1048576) :
    CD Try.prog 80 [.slice A vs.length ca, .int .i64 l] h (.int .i64 (if l - vs.length - varW vs vs.length < 0 then -1 else l - vs.length - varW vs vs.length)) h := by
  refine CD.withBig (fun big => ?_)
  refine CD.quiet ?_ (low_int _ _ _)
  have hm := maxLen_eq
  have w1 : IntKind.i64.wrap (l - (vs.length : Int)) = l - (vs.length : Int) := by rw [w64 (by omega) (by omega)]
  refine CC.ofN Try.func80 Try.ntmps80 Try.results80 rfl (by decide) (by kernel_rfl) ?_
  simp (maxSteps := 1000000) -implicitDefEqProofs only [push_cast, seval, w1]
  with_reducible refine bcase_d (fun hb => ?_) (fun hb => ?_)
  · simp (maxSteps := 1000000) -implicitDefEqProofs only [push_cast, seval]
    repeat' (first | with_reducible (first | exact Keep.refl _ _ | assumption | exact byte_lt _ _ | apply Keep.alloc | (refine Keep.set ?_ ?_; rotate_left; · omega) | apply Pre.alloc | apply Pre.set | exact Pre.refl _ | exact le_alloc _ | (refine Pre.keep ?_; assumption) | (refine Pre.n ?_; assumption)) | ((with_reducible (first | refine bcase_d (fun hb => ?_) (fun hb => ?_) | refine bcase_mk (fun hb => ?_) (fun hb => ?_))) <;> try simp (maxSteps := 1000000) -implicitDefEqProofs only [push_cast, seval]) | with_reducible refine And.intro ?_ ?_ | omega | (simp only [alloc_n, set_n, kill_n]; omega) | (exfalso; omega))
    all_goals grind
  simp (maxSteps := 1000000) -implicitDefEqProofs only [push_cast, seval]
  refine WC.loopA (by kernel_rfl) [1, 5] [4, 12, 13, 14, 15, 16, 17, 18, 19, 20, 21, 22, 23, 24, 25] (fun a : Int × Nat => [.int .i64 a.1, .int .i64 (a.2 : Nat)]) (fun a h' => (a.1 = l - vs.length - varW vs a.2 ∧ 0 ≤ a.1 ∧ a.2 ≤ vs.length) ∧ Pre h h') (fun a => vs.length - a.2) (l - vs.length, 0) (by kernel_rfl) ⟨⟨by rw [varW_zero]; simp, by omega, Nat.zero_le _⟩, Pre.refl _⟩ ?_
  intro a g h1 hJ
  have ha := hJ.1.1
  have h0 := hJ.1.2.1
  have hi := hJ.1.2.2
  have hp := hJ.2
  clear hJ
  simp (maxSteps := 1000000) -implicitDefEqProofs only [push_cast, seval]
  with_reducible refine bcase_d (fun hb => ?_) (fun hb => ?_)
  · have hi' : a.2 < vs.length := by omega
    with_reducible refine hR.use big hp hi' (fun id off eA hlt hr => ?_)
    subst eA
    simp only [Var.enc] at hr
    have hzi := hz _ (List.getElem_mem hi')
    have hs := varW_succ hi'
    have hmo := varW_mono (l := vs) (i := a.2 + 1) (j := vs.length) (by omega) (Nat.le_refl _)
    simp (maxSteps := 1000000) -implicitDefEqProofs only [push_cast, seval, hr, hlt]
    repeat' (first | with_reducible (first | exact Keep.refl _ _ | assumption | exact byte_lt _ _ | apply Keep.alloc | (refine Keep.set ?_ ?_; rotate_left; · omega) | apply Pre.alloc | apply Pre.set | exact Pre.refl _ | exact le_alloc _ | (refine Pre.keep ?_; assumption) | (refine Pre.n ?_; assumption)) | ((with_reducible (first | refine CD.to (szVar_c _ _ ?_ ?_ _) ?_ | refine CQ.pure (fun _ => szVar_c _ _ ?_ ?_ _) ?_ | refine bcase_d (fun hb => ?_) (fun hb => ?_) | refine bcase_mk (fun hb => ?_) (fun hb => ?_))) <;> try simp (maxSteps := 1000000) -implicitDefEqProofs only [push_cast, seval, hr, hlt]) | with_reducible refine And.intro ?_ ?_ | omega | (simp only [alloc_n, set_n, kill_n]; omega) | (exfalso; omega))
    · grind
    · have hq : ¬ (a.1 - vs[a.2].name.size - vs[a.2].val.size < 0) := by intro e; rw [if_pos e] at hb; omega
      rw [if_neg hq, wrapSucc (by omega)]
      refine ⟨(a.1 - vs[a.2].name.size - vs[a.2].val.size, a.2 + 1), by kernel_rfl, ⟨⟨?_, ?_, ?_⟩, hp⟩, ?_⟩
      · show a.1 - vs[a.2].name.size - vs[a.2].val.size = l - vs.length - varW vs (a.2 + 1)
        omega
      · show 0 ≤ a.1 - vs[a.2].name.size - vs[a.2].val.size
        omega
      · show a.2 + 1 ≤ vs.length
        omega
      · show vs.length - (a.2 + 1) < vs.length - a.2
        omega
  · have hn : a.2 = vs.length := by omega
    simp (maxSteps := 1000000) -implicitDefEqProofs only [push_cast, seval]
    repeat' (first | with_reducible (first | exact Keep.refl _ _ | assumption | exact byte_lt _ _ | apply Keep.alloc | (refine Keep.set ?_ ?_; rotate_left; · omega) | apply Pre.alloc | apply Pre.set | exact Pre.refl _ | exact le_alloc _ | (refine Pre.keep ?_; assumption) | (refine Pre.n ?_; assumption)) | ((with_reducible (first | refine bcase_d (fun hb => ?_) (fun hb => ?_) | refine bcase_mk (fun hb => ?_) (fun hb => ?_))) <;> try simp (maxSteps := 1000000) -implicitDefEqProofs only [push_cast, seval]) | with_reducible refine And.intro ?_ ?_ | omega | (simp only [alloc_n, set_n, kill_n]; omega) | (exfalso; omega))
    grind
theorem szCellS_c (vs : List Cell) (A : Option Addr) (ca : Nat) (l : Int) (h : AH) (hR : RdE h A 3 Cell.enc vs) (hz : ∀ x ∈ vs, x.name.size ≤ maxLen ∧ x.key.size ≤ maxLen ∧ x.val.size ≤ maxLen) (hn : vs.length ≤ maxLen) (hl : 0 ≤ l ∧ l ≤ 1048576) :
    CD Try.prog 81 [.slice A vs.length ca, .int .i64 l] h (.int .i64 (if l - vs.length - cellW vs vs.length < 0 then -1 else l - vs.length - cellW vs vs.length)) h := by
  refine CD.withBig (fun big => ?_)
  refine CD.quiet ?_ (low_int _ _ _)
  have hm := maxLen_eq
  have w1 : IntKind.i64.wrap (l - (vs.length : Int)) = l - (vs.length : Int) := by rw [w64 (by omega) (by omega)]
  refine CC.ofN Try.func81 Try.ntmps81 Try.results81 rfl (by decide) (by kernel_rfl) ?_
  simp (maxSteps := 1000000) -implicitDefEqProofs only [push_cast, seval, w1]
  with_reducible refine bcase_d (fun hb => ?_) (fun hb => ?_)
  · simp (maxSteps := 1000000) -implicitDefEqProofs only [push_cast, seval]
    repeat' (first | with_reducible (first | exact Keep.refl _ _ | assumption | exact byte_lt _ _ | apply Keep.alloc | (refine Keep.set ?_ ?_; rotate_left; · omega) | apply Pre.alloc | apply Pre.set | exact Pre.refl _ | exact le_alloc _ | (refine Pre.keep ?_; assumption) | (refine Pre.n ?_; assumption)) | ((with_reducible (first | refine bcase_d (fun hb => ?_) (fun hb => ?_) | refine bcase_mk (fun hb => ?_) (fun hb => ?_))) <;> try simp (maxSteps := 1000000) -implicitDefEqProofs only [push_cast, seval]) | with_reducible refine And.intro ?_ ?_ | omega | (simp only [alloc_n, set_n, kill_n]; omega) | (exfalso; omega))
    all_goals grind
  simp (maxSteps := 1000000) -implicitDefEqProofs only [push_cast, seval]
  refine WC.loopA (by kernel_rfl) [1, 5] [4, 12, 13, 14, 15, 16, 17, 18, 19, 20, 21, 22, 23, 24, 25] (fun a : Int × Nat => [.int .i64 a.1, .int .i64 (a.2 : Nat)]) (fun a h' => (a.1 = l - vs.length - cellW vs a.2 ∧ 0 ≤ a.1 ∧ a.2 ≤ vs.length) ∧ Pre h h') (fun a => vs.length - a.2) (l - vs.length, 0) (by kernel_rfl) ⟨⟨by rw [cellW_zero]; simp, by omega, Nat.zero_le _⟩, Pre.refl _⟩ ?_
  intro a g h1 hJ
  have ha := hJ.1.1
  have h0 := hJ.1.2.1
  have hi := hJ.1.2.2
  have hp := hJ.2
  clear hJ
  simp (maxSteps := 1000000) -implicitDefEqProofs only [push_cast, seval]
  with_reducible refine bcase_d (fun hb => ?_) (fun hb => ?_)
  · have hi' : a.2 < vs.length := by omega
    with_reducible refine hR.use big hp hi' (fun id off eA hlt hr => ?_)
    subst eA
    simp only [Cell.enc] at hr
    have hzi := hz _ (List.getElem_mem hi')
    have hs := cellW_succ hi'
    have hmo := cellW_mono (l := vs) (i := a.2 + 1) (j := vs.length) (by omega) (Nat.le_refl _)
    simp (maxSteps := 1000000) -implicitDefEqProofs only [push_cast, seval, hr, hlt]
    repeat' (first | with_reducible (first | exact Keep.refl _ _ | assumption | exact byte_lt _ _ | apply Keep.alloc | (refine Keep.set ?_ ?_; rotate_left; · omega) | apply Pre.alloc | apply Pre.set | exact Pre.refl _ | exact le_alloc _ | (refine Pre.keep ?_; assumption) | (refine Pre.n ?_; assumption)) | ((with_reducible (first | refine CD.to (szCell_c _ _ ?_ ?_ _) ?_ | refine CQ.pure (fun _ => szCell_c _ _ ?_ ?_ _) ?_ | refine bcase_d (fun hb => ?_) (fun hb => ?_) | refine bcase_mk (fun hb => ?_) (fun hb => ?_))) <;> try simp (maxSteps := 1000000) -implicitDefEqProofs only [push_cast, seval, hr, hlt]) | with_reducible refine And.intro ?_ ?_ | omega | (simp only [alloc_n, set_n, kill_n]; omega) | (exfalso; omega))
    · grind
    · have hq : ¬ (a.1 - vs[a.2].name.size - vs[a.2].key.size - vs[a.2].val.size < 0) := by intro e; rw [if_pos e] at hb; omega
      rw [if_neg hq, wrapSucc (by omega)]
      refine ⟨(a.1 - vs[a.2].name.size - vs[a.2].key.size - vs[a.2].val.size, a.2 + 1), by kernel_rfl, ⟨⟨?_, ?_, ?_⟩, hp⟩, ?_⟩
      · show a.1 - vs[a.2].name.size - vs[a.2].key.size - vs[a.2].val.size = l - vs.length - cellW vs (a.2 + 1)
        omega
      · show 0 ≤ a.1 - vs[a.2].name.size - vs[a.2].key.size - vs[a.2].val.size
        omega
      · show a.2 + 1 ≤ vs.length
        omega
      · show vs.length - (a.2 + 1) < vs.length - a.2
        omega
  · have hn : a.2 = vs.length := by omega
    simp (maxSteps := 1000000) -implicitDefEqProofs only [push_cast, seval]
    repeat' (first | with_reducible (first | exact Keep.refl _ _ | assumption | exact byte_lt _ _ | apply Keep.alloc | (refine Keep.set ?_ ?_; rotate_left; · omega) | apply Pre.alloc | apply Pre.set | exact Pre.refl _ | exact le_alloc _ | (refine Pre.keep ?_; assumption) | (refine Pre.n ?_; assumption)) | ((with_reducible (first | refine bcase_d (fun hb => ?_) (fun hb => ?_) | refine bcase_mk (fun hb => ?_) (fun hb => ?_))) <;> try simp (maxSteps := 1000000) -implicitDefEqProofs only [push_cast, seval]) | with_reducible refine And.intro ?_ ?_ | omega | (simp only [alloc_n, set_n, kill_n]; omega) | (exfalso; omega))
    grind
def storeW (s : Store) : Nat := s.vars.length + varW s.vars s.vars.length + (s.cells.length + cellW s.cells s.cells.length) + s.out.size
structure SzA (s : Store) : Prop where
  vars : ∀ x ∈ s.vars, x.name.size ≤ maxLen ∧ x.val.size ≤ maxLen
  cells : ∀ x ∈ s.cells, x.name.size ≤ maxLen ∧ x.key.size ≤ maxLen ∧ x.val.size ≤ maxLen
  out : s.out.size ≤ maxLen
  nv : s.vars.length ≤ maxLen
  nc : s.cells.length ≤ maxLen
theorem SzA.sz {s : Store} (a : SzA s) (h : storeW s ≤ 1048576) : Sz s := ⟨a.vars, a.cells, a.out, by simp only [storeW] at h; omega, by simp only [storeW] at h; omega⟩
theorem szStore_c (s : Store) (A B : Option Addr) (ca cb : Nat) (l : Int) (h : AH) (hR : RdS h A B s) (hz : SzA s) (hl : 0 ≤ l ∧ l ≤ 1048576) :
    CD Try.prog 40 [.agg #[.slice A s.vars.length ca, .slice B s.cells.length cb, .string s.out], .int .i64 l] h (.int .i64 (if l - storeW s < 0 then -1 else l - storeW s)) h := by
  refine CD.withBig (fun big => ?_)
  refine CD.quiet ?_ (low_int _ _ _)
  have hm := maxLen_eq
  have ho := hz.out
  have pb : Pre h (h.alloc (AOb.cells [Value.slice A s.vars.length ca, Value.slice B s.cells.length cb, Value.string s.out] Stat.solo h.n)) := (Pre.refl _).alloc _
  have hV := szVarS_c s.vars A ca l _ (hR.vars.pre big pb) hz.vars hz.nv hl
  have hw : storeW s = s.vars.length + varW s.vars s.vars.length + (s.cells.length + cellW s.cells s.cells.length) + s.out.size := rfl
  have c1 : ∀ {a : Int}, (a < 0) = True → (if a < 0 then (-1 : Int) else a) = -1 := fun e => if_pos (of_eq_true e)
  refine CC.ofN Try.func40 Try.ntmps40 Try.results40 rfl (by decide) (by kernel_rfl) ?_
  simp (maxSteps := 1000000) -implicitDefEqProofs only [push_cast, seval]
  repeat' (first | with_reducible (first | exact Keep.refl _ _ | assumption | exact byte_lt _ _ | apply Keep.alloc | (refine Keep.set ?_ ?_; rotate_left; · omega) | apply Pre.alloc | apply Pre.set | exact Pre.refl _ | exact le_alloc _ | (refine Pre.keep ?_; assumption) | (refine Pre.n ?_; assumption)) | ((with_reducible (first | refine CD.to (hV) ?_ | refine CQ.pure (fun _ => hV) ?_ | refine bcase_d (fun hb => ?_) (fun hb => ?_) | refine bcase_mk (fun hb => ?_) (fun hb => ?_))) <;> try simp (maxSteps := 1000000) -implicitDefEqProofs only [push_cast, seval]) | with_reducible refine And.intro ?_ ?_ | omega | (simp only [alloc_n, set_n, kill_n]; omega) | (exfalso; omega))
  · grind
  have hq : ¬ (l - s.vars.length - varW s.vars s.vars.length < 0) := by intro e; rw [if_pos e] at hb; omega
  have hC := szCellS_c s.cells B cb (l - s.vars.length - varW s.vars s.vars.length) _ (hR.cells.pre big pb) hz.cells hz.nc (by omega)
  rw [if_neg hq]
  repeat' (first | with_reducible (first | exact Keep.refl _ _ | assumption | exact byte_lt _ _ | apply Keep.alloc | (refine Keep.set ?_ ?_; rotate_left; · omega) | apply Pre.alloc | apply Pre.set | exact Pre.refl _ | exact le_alloc _ | (refine Pre.keep ?_; assumption) | (refine Pre.n ?_; assumption)) | ((with_reducible (first | refine CD.to (hC) ?_ | refine CQ.pure (fun _ => hC) ?_ | refine bcase_d (fun hb => ?_) (fun hb => ?_) | refine bcase_mk (fun hb => ?_) (fun hb => ?_))) <;> try simp (maxSteps := 1000000) -implicitDefEqProofs only [push_cast, seval]) | with_reducible refine And.intro ?_ ?_ | omega | (simp only [alloc_n, set_n, kill_n]; omega) | (exfalso; omega))
  · grind
  all_goals
    by_cases e : l - s.vars.length - varW s.vars s.vars.length - s.cells.length - cellW s.cells s.cells.length < 0
    · rename_i hb1 hb2
      exact absurd (by rw [if_pos e]; decide) hb2
    · have w := w64 (n := l - s.vars.length - varW s.vars s.vars.length - s.cells.length - cellW s.cells s.cells.length - s.out.size) (by omega) (by omega)
      rename_i hb1 hb2
      rw [if_neg e, w] at hb
      try rw [if_neg e, w]
      grind
end Go.Proofs.Ytfbcedjheempfaa
namespace Go.Proofs.Ytfbcedjheempfaa
open Go Go.Sim Go.Proofs
set_option linter.unusedSimpArgs false
set_option linter.unusedVariables false
set_option maxRecDepth 100000
set_option maxHeartbeats 1000000
theorem toVar_c (x : Var) (h : AH) : CD Try.prog 116 [.agg #[.string x.name, .string x.val]] h (.agg #[.string x.name, .string x.val]) h := by
  refine CD.quiet ?_ (low_agg (by simp [low_string]))
  refine CC.ofN Try.func116 Try.ntmps116 Try.results116 rfl (by decide) (by kernel_rfl) ?_
  simp (maxSteps := 1000000) -implicitDefEqProofs only [push_cast, seval]
  repeat' (first | with_reducible (first | exact Keep.refl _ _ | assumption | exact byte_lt _ _ | apply Keep.alloc | (refine Keep.set ?_ ?_; rotate_left; · omega) | apply Pre.alloc | apply Pre.set | exact Pre.refl _ | exact le_alloc _ | (refine Pre.keep ?_; assumption) | (refine Pre.n ?_; assumption)) | ((with_reducible (first | refine bcase_d (fun hb => ?_) (fun hb => ?_) | refine bcase_mk (fun hb => ?_) (fun hb => ?_))) <;> try simp (maxSteps := 1000000) -implicitDefEqProofs only [push_cast, seval]) | with_reducible refine And.intro ?_ ?_ | omega | (simp only [alloc_n, set_n, kill_n]; omega) | (exfalso; omega))
theorem toCell_c (x : Cell) (h : AH) : CD Try.prog 117 [.agg #[.string x.name, .string x.key, .string x.val]] h (.agg #[.string x.name, .string x.key, .string x.val]) h := by
  refine CD.quiet ?_ (low_agg (by simp [low_string]))
  refine CC.ofN Try.func117 Try.ntmps117 Try.results117 rfl (by decide) (by kernel_rfl) ?_
  simp (maxSteps := 1000000) -implicitDefEqProofs only [push_cast, seval]
  repeat' (first | with_reducible (first | exact Keep.refl _ _ | assumption | exact byte_lt _ _ | apply Keep.alloc | (refine Keep.set ?_ ?_; rotate_left; · omega) | apply Pre.alloc | apply Pre.set | exact Pre.refl _ | exact le_alloc _ | (refine Pre.keep ?_; assumption) | (refine Pre.n ?_; assumption)) | ((with_reducible (first | refine bcase_d (fun hb => ?_) (fun hb => ?_) | refine bcase_mk (fun hb => ?_) (fun hb => ?_))) <;> try simp (maxSteps := 1000000) -implicitDefEqProofs only [push_cast, seval]) | with_reducible refine And.intro ?_ ?_ | omega | (simp only [alloc_n, set_n, kill_n]; omega) | (exfalso; omega))
/-- A new slice's cells, of which the first are filled. -/
def Filled {α : Type} (k : Nat) (enc : α → List Value) (l : List α) (cs : List Value) (i : Nat) : Prop := cs.length = l.length * k ∧ ∀ j (hj : j < l.length), j < i → (cs.drop (j * k)).take k = enc l[j]
theorem Filled.put {α : Type} {k : Nat} {enc : α → List Value} {l : List α} {cs : List Value} {i : Nat} (w : Filled k enc l cs i) (hi : i < l.length) (hk : (enc l[i]).length = k) : Filled k enc l (putL cs (i * k) (enc l[i])) (i + 1) := by
  refine ⟨by rw [putL_length, w.1], fun j hj hji => ?_⟩
  have hb : i * k + k ≤ cs.length := by rw [w.1, ← Nat.succ_mul]; exact Nat.mul_le_mul_right k hi
  by_cases e : j = i
  · subst e
    apply List.ext_getElem?
    intro m
    rw [List.getElem?_take]
    by_cases hm : m < k
    · rw [if_pos hm, List.getElem?_drop, putL_in _ _ _ m (by omega) (by omega), List.getElem?_eq_getElem]
    · rw [if_neg hm, List.getElem?_eq_none (by omega)]
  · have hji' : j < i := by omega
    rw [← w.2 j hj hji']
    have hq : j * k + k ≤ i * k := by rw [← Nat.succ_mul]; exact Nat.mul_le_mul_right k hji'
    apply List.ext_getElem?
    intro m
    rw [List.getElem?_take, List.getElem?_take]
    by_cases hm : m < k
    · rw [if_pos hm, if_pos hm, List.getElem?_drop, List.getElem?_drop, putL_out _ _ _ _ (.inl (by omega))]
    · rw [if_neg hm, if_neg hm]
theorem Filled.zero {α : Type} {k : Nat} {enc : α → List Value} {l : List α} (z : List Value) : Filled k enc l (zerosL (l.length * k) z) 0 := ⟨zerosL_length _ _, fun j _ h => absurd h (Nat.not_lt_zero j)⟩
theorem Filled.readAt {α : Type} {k : Nat} {enc : α → List Value} {l : List α} {cs : List Value} (w : Filled k enc l cs l.length) {h : AH} {i : Nat} {st : Sim.Stat} {ln : Nat} (e : h.ob i = .cells cs st ln) : RdE h (some ⟨i, 0, none⟩) k enc l := fun j hj => by
  refine ⟨i, 0, rfl, ?_⟩
  rw [rd_of e, rdO_cells, Nat.zero_add, w.2 j hj hj]
  have : j * k + k ≤ cs.length := by rw [w.1, ← Nat.succ_mul]; exact Nat.mul_le_mul_right k hj
  simp [this]
theorem Filled.read {α : Type} {k : Nat} {enc : α → List Value} {l : List α} {cs : List Value} (w : Filled k enc l cs l.length) (h : AH) : RdE (h.alloc (.cells cs .solo h.n)) (some ⟨h.n, 0, none⟩) k enc l := fun i hi => by
  refine ⟨h.n, 0, rfl, ?_⟩
  rw [rd_alloc_same, rdO_cells, Nat.zero_add, w.2 i hi hi]
  have : i * k + k ≤ cs.length := by rw [w.1, ← Nat.succ_mul]; exact Nat.mul_le_mul_right k hi
  simp [this]
theorem alloc_set {h : AH} (o o' : AOb) : (h.alloc o).set h.n o' = h.alloc o' := by
  unfold AH.set AH.alloc
  simp only
  congr 1
  funext j
  split <;> rfl
theorem toVarS_c (vs : List Var) (A : Option Addr) (ca : Nat) (h : AH) (hR : RdE h A 2 Var.enc vs) (hn : vs.length < 274877906944) :
    CC Try.prog 82 [.slice A vs.length ca] h (fun v h' => ∃ cs, v = .slice (some ⟨h.n, 0, none⟩) vs.length 2 ∧ h' = h.alloc (.cells cs .solo h.n) ∧ Filled 2 Var.enc vs cs vs.length) := by
  refine CC.withBig (fun big => ?_)
  refine CC.ofN Try.func82 Try.ntmps82 Try.results82 rfl (by decide) (by kernel_rfl) ?_
  simp (maxSteps := 1000000) -implicitDefEqProofs only [push_cast, seval]
  repeat (with_reducible refine And.intro ?_ ?_; · (first | omega | decide))
  refine WC.loopA (by kernel_rfl) [4] [8, 9, 10, 11, 12, 13, 14, 15, 16, 17, 18, 19, 20, 21] (fun a : Nat × List Value => [.int .i64 (a.1 : Nat)]) (fun a h' => h' = h.alloc (.cells a.2 .solo h.n) ∧ a.1 ≤ vs.length ∧ Filled 2 Var.enc vs a.2 a.1) (fun a => vs.length - a.1) (0, zerosL (vs.length * 2) [.string ⟨#[]⟩, .string ⟨#[]⟩]) (by kernel_rfl) ⟨rfl, Nat.zero_le _, Filled.zero _⟩ ?_
  intro a g h1 hJ
  have hh := hJ.1
  have hi := hJ.2.1
  have hf := hJ.2.2
  clear hJ
  subst hh
  have pb : Pre h (h.alloc (.cells a.2 .solo h.n)) := (Pre.refl _).alloc _
  simp (maxSteps := 1000000) -implicitDefEqProofs only [push_cast, seval]
  with_reducible refine bcase_d (fun hb => ?_) (fun hb => ?_)
  · have hi' : a.1 < vs.length := by omega
    with_reducible refine hR.use big pb hi' (fun id off eA hlt hr => ?_)
    subst eA
    simp only [Var.enc] at hr
    have hc := hf.1
    have hf' := hf.put hi' rfl
    simp only [Var.enc] at hf'
    simp (maxSteps := 1000000) -implicitDefEqProofs only [push_cast, seval, hr, hlt]
    repeat' (first | with_reducible (first | exact Keep.refl _ _ | assumption | exact byte_lt _ _ | apply Keep.alloc | (refine Keep.set ?_ ?_; rotate_left; · omega) | apply Pre.alloc | apply Pre.set | exact Pre.refl _ | exact le_alloc _ | (refine Pre.keep ?_; assumption) | (refine Pre.n ?_; assumption)) | ((with_reducible (first | refine CD.to (toVar_c _ _) ?_ | refine CQ.pure (fun _ => toVar_c _ _) ?_ | refine bcase_d (fun hb => ?_) (fun hb => ?_) | refine bcase_mk (fun hb => ?_) (fun hb => ?_))) <;> try simp (maxSteps := 1000000) -implicitDefEqProofs only [push_cast, seval, hr, hlt]) | with_reducible refine And.intro ?_ ?_ | omega | (simp only [alloc_n, set_n, kill_n]; omega) | (exfalso; omega))
    rw [wrapSucc (by omega)]
    refine ⟨(a.1 + 1, putL a.2 (a.1 * 2) [.string vs[a.1].name, .string vs[a.1].val]), by kernel_rfl, ⟨?_, ?_, hf'⟩, ?_⟩
    · simp only [putL, alloc_set]
    · show a.1 + 1 ≤ vs.length
      omega
    · show vs.length - (a.1 + 1) < vs.length - a.1
      omega
  · have hn : a.1 = vs.length := by omega
    rw [hn] at hf
    simp (maxSteps := 1000000) -implicitDefEqProofs only [push_cast, seval]
    repeat' (first | with_reducible (first | exact Keep.refl _ _ | assumption | exact byte_lt _ _ | apply Keep.alloc | (refine Keep.set ?_ ?_; rotate_left; · omega) | apply Pre.alloc | apply Pre.set | exact Pre.refl _ | exact le_alloc _ | (refine Pre.keep ?_; assumption) | (refine Pre.n ?_; assumption)) | ((with_reducible (first | refine bcase_d (fun hb => ?_) (fun hb => ?_) | refine bcase_mk (fun hb => ?_) (fun hb => ?_))) <;> try simp (maxSteps := 1000000) -implicitDefEqProofs only [push_cast, seval]) | with_reducible refine And.intro ?_ ?_ | omega | (simp only [alloc_n, set_n, kill_n]; omega) | (exfalso; omega))
    exact ⟨_, rfl, hf⟩
theorem toCellS_c (vs : List Cell) (A : Option Addr) (ca : Nat) (h : AH) (hR : RdE h A 3 Cell.enc vs) (hn : vs.length < 274877906944) :
    CC Try.prog 83 [.slice A vs.length ca] h (fun v h' => ∃ cs, v = .slice (some ⟨h.n, 0, none⟩) vs.length 3 ∧ h' = h.alloc (.cells cs .solo h.n) ∧ Filled 3 Cell.enc vs cs vs.length) := by
  refine CC.withBig (fun big => ?_)
  refine CC.ofN Try.func83 Try.ntmps83 Try.results83 rfl (by decide) (by kernel_rfl) ?_
  simp (maxSteps := 1000000) -implicitDefEqProofs only [push_cast, seval]
  repeat (with_reducible refine And.intro ?_ ?_; · (first | omega | decide))
  refine WC.loopA (by kernel_rfl) [4] [8, 9, 10, 11, 12, 13, 14, 15, 16, 17, 18, 19, 20, 21] (fun a : Nat × List Value => [.int .i64 (a.1 : Nat)]) (fun a h' => h' = h.alloc (.cells a.2 .solo h.n) ∧ a.1 ≤ vs.length ∧ Filled 3 Cell.enc vs a.2 a.1) (fun a => vs.length - a.1) (0, zerosL (vs.length * 3) [.string ⟨#[]⟩, .string ⟨#[]⟩, .string ⟨#[]⟩]) (by kernel_rfl) ⟨rfl, Nat.zero_le _, Filled.zero _⟩ ?_
  intro a g h1 hJ
  have hh := hJ.1
  have hi := hJ.2.1
  have hf := hJ.2.2
  clear hJ
  subst hh
  have pb : Pre h (h.alloc (.cells a.2 .solo h.n)) := (Pre.refl _).alloc _
  simp (maxSteps := 1000000) -implicitDefEqProofs only [push_cast, seval]
  with_reducible refine bcase_d (fun hb => ?_) (fun hb => ?_)
  · have hi' : a.1 < vs.length := by omega
    with_reducible refine hR.use big pb hi' (fun id off eA hlt hr => ?_)
    subst eA
    simp only [Cell.enc] at hr
    have hc := hf.1
    have hf' := hf.put hi' rfl
    simp only [Cell.enc] at hf'
    simp (maxSteps := 1000000) -implicitDefEqProofs only [push_cast, seval, hr, hlt]
    repeat' (first | with_reducible (first | exact Keep.refl _ _ | assumption | exact byte_lt _ _ | apply Keep.alloc | (refine Keep.set ?_ ?_; rotate_left; · omega) | apply Pre.alloc | apply Pre.set | exact Pre.refl _ | exact le_alloc _ | (refine Pre.keep ?_; assumption) | (refine Pre.n ?_; assumption)) | ((with_reducible (first | refine CD.to (toCell_c _ _) ?_ | refine CQ.pure (fun _ => toCell_c _ _) ?_ | refine bcase_d (fun hb => ?_) (fun hb => ?_) | refine bcase_mk (fun hb => ?_) (fun hb => ?_))) <;> try simp (maxSteps := 1000000) -implicitDefEqProofs only [push_cast, seval, hr, hlt]) | with_reducible refine And.intro ?_ ?_ | omega | (simp only [alloc_n, set_n, kill_n]; omega) | (exfalso; omega))
    rw [wrapSucc (by omega)]
    refine ⟨(a.1 + 1, putL a.2 (a.1 * 3) [.string vs[a.1].name, .string vs[a.1].key, .string vs[a.1].val]), by kernel_rfl, ⟨?_, ?_, hf'⟩, ?_⟩
    · simp only [putL, alloc_set]
    · show a.1 + 1 ≤ vs.length
      omega
    · show vs.length - (a.1 + 1) < vs.length - a.1
      omega
  · have hn : a.1 = vs.length := by omega
    rw [hn] at hf
    simp (maxSteps := 1000000) -implicitDefEqProofs only [push_cast, seval]
    repeat' (first | with_reducible (first | exact Keep.refl _ _ | assumption | exact byte_lt _ _ | apply Keep.alloc | (refine Keep.set ?_ ?_; rotate_left; · omega) | apply Pre.alloc | apply Pre.set | exact Pre.refl _ | exact le_alloc _ | (refine Pre.keep ?_; assumption) | (refine Pre.n ?_; assumption)) | ((with_reducible (first | refine bcase_d (fun hb => ?_) (fun hb => ?_) | refine bcase_mk (fun hb => ?_) (fun hb => ?_))) <;> try simp (maxSteps := 1000000) -implicitDefEqProofs only [push_cast, seval]) | with_reducible refine And.intro ?_ ?_ | omega | (simp only [alloc_n, set_n, kill_n]; omega) | (exfalso; omega))
    exact ⟨_, rfl, hf⟩
theorem toStore_c (s : Store) (A B : Option Addr) (ca cb : Nat) (h : AH) (hR : RdS h A B s) (hz : Sz s) :
    CC Try.prog 41 [.agg #[.slice A s.vars.length ca, .slice B s.cells.length cb, .string s.out]] h (fun v h' => ∃ A' B', v = .agg #[.slice A' s.vars.length 2, .slice B' s.cells.length 3, .string s.out] ∧ (∀ h2, Pre h' h2 → RdS h2 A' B' s) ∧ Pre h h') := by
  refine CC.withBig (fun big => ?_)
  have hA := hR.vars
  have hB := hR.cells
  have hnv := hz.nv
  have hnc := hz.nc
  refine CC.ofN Try.func41 Try.ntmps41 Try.results41 rfl (by decide) (by kernel_rfl) ?_
  simp (maxSteps := 1000000) -implicitDefEqProofs only [push_cast, seval]
  have p1 : Pre h (((h.alloc (AOb.cells [Value.slice A s.vars.length ca, Value.slice B s.cells.length cb, Value.string s.out] Stat.solo h.n)).alloc (AOb.cells [Value.slice none 0 0, Value.slice none 0 0, Value.string ⟨#[]⟩] Stat.solo (h.n + 1))).alloc (AOb.cells [Value.slice none 0 0, Value.slice none 0 0, Value.string ⟨#[]⟩] Stat.solo (h.n + 2))) := (((Pre.refl _).alloc _).alloc _).alloc _
  with_reducible refine CC.mono (toVarS_c s.vars A ca _ (hA.pre big p1) hnv) (fun v h1 hv => ?_)
  with_reducible refine Exists.elim hv (fun cs hv => ?_)
  have e1 := hv.1
  have e2 := hv.2.1
  have f1 := hv.2.2
  clear hv
  subst e1 e2
  simp (maxSteps := 1000000) -implicitDefEqProofs only [push_cast, seval]
  have p2 : Pre h (((((h.alloc (AOb.cells [Value.slice A s.vars.length ca, Value.slice B s.cells.length cb, Value.string s.out] Stat.solo h.n)).alloc (AOb.cells [Value.slice none 0 0, Value.slice none 0 0, Value.string ⟨#[]⟩] Stat.solo (h.n + 1))).alloc (AOb.cells [Value.slice none 0 0, Value.slice none 0 0, Value.string ⟨#[]⟩] Stat.solo (h.n + 2))).alloc (AOb.cells cs Stat.solo (h.n + 3))).set (h.n + 2) (AOb.cells [Value.slice (some ⟨h.n + 3, 0, none⟩) s.vars.length 2, Value.slice none 0 0, Value.string ⟨#[]⟩] Stat.solo (h.n + 2))) := (p1.alloc _).set (by omega) _
  with_reducible refine CC.mono (toCellS_c s.cells B cb _ (hB.pre big p2) hnc) (fun v h1 hv => ?_)
  with_reducible refine Exists.elim hv (fun cs2 hv => ?_)
  have e1 := hv.1
  have e2 := hv.2.1
  have f2 := hv.2.2
  clear hv
  subst e1 e2
  simp (maxSteps := 1000000) -implicitDefEqProofs only [push_cast, seval]
  refine ⟨_, _, rfl, fun h2 q2 => ⟨f1.readAt (st := Sim.Stat.solo) (ln := h.n + 3) ((q2.ob _ ?_).trans ?_), f2.readAt (st := Sim.Stat.solo) (ln := h.n + 4) ((q2.ob _ ?_).trans ?_)⟩, ?_⟩
  · show h.n + 3 < h.n + 5
    omega
  · simp [AH.set, AH.alloc]
  · show h.n + 4 < h.n + 5
    omega
  · simp [AH.set, AH.alloc]
  · refine Pre.set (Pre.set (p2.alloc _) ?_ _) ?_ _ <;> omega
end Go.Proofs.Ytfbcedjheempfaa
namespace Go.Proofs.Ytfbcedjheempfaa
open Go Go.Sim Go.Proofs
set_option linter.unusedSimpArgs false
set_option linter.unusedVariables false
set_option maxRecDepth 100000
set_option maxHeartbeats 1000000
theorem eqVar_c (a b : Var) (h : AH) : CD Try.prog 119 [.agg #[.string a.name, .string a.val], .agg #[.string b.name, .string b.val]] h (.bool (decide (a = b))) h := by
  refine CD.quiet ?_ (low_bool _ _)
  refine CC.ofN Try.func119 Try.ntmps119 Try.results119 rfl (by decide) (by kernel_rfl) ?_
  simp (maxSteps := 1000000) -implicitDefEqProofs only [push_cast, seval]
  repeat' (first | with_reducible (first | exact Keep.refl _ _ | assumption | exact byte_lt _ _ | apply Keep.alloc | (refine Keep.set ?_ ?_; rotate_left; · omega) | apply Pre.alloc | apply Pre.set | exact Pre.refl _ | exact le_alloc _ | (refine Pre.keep ?_; assumption) | (refine Pre.n ?_; assumption)) | ((with_reducible (first | refine bcase_d (fun hb => ?_) (fun hb => ?_) | refine bcase_mk (fun hb => ?_) (fun hb => ?_))) <;> try simp (maxSteps := 1000000) -implicitDefEqProofs only [push_cast, seval]) | with_reducible refine And.intro ?_ ?_ | omega | (simp only [alloc_n, set_n, kill_n]; omega) | (exfalso; omega))
  all_goals (obtain ⟨a1, a2⟩ := a; obtain ⟨b1, b2⟩ := b; simp_all [Var.mk.injEq])
theorem eqCell_c (a b : Cell) (h : AH) : CD Try.prog 120 [.agg #[.string a.name, .string a.key, .string a.val], .agg #[.string b.name, .string b.key, .string b.val]] h (.bool (decide (a = b))) h := by
  refine CD.quiet ?_ (low_bool _ _)
  refine CC.ofN Try.func120 Try.ntmps120 Try.results120 rfl (by decide) (by kernel_rfl) ?_
  simp (maxSteps := 1000000) -implicitDefEqProofs only [push_cast, seval]
  repeat' (first | with_reducible (first | exact Keep.refl _ _ | assumption | exact byte_lt _ _ | apply Keep.alloc | (refine Keep.set ?_ ?_; rotate_left; · omega) | apply Pre.alloc | apply Pre.set | exact Pre.refl _ | exact le_alloc _ | (refine Pre.keep ?_; assumption) | (refine Pre.n ?_; assumption)) | ((with_reducible (first | refine bcase_d (fun hb => ?_) (fun hb => ?_) | refine bcase_mk (fun hb => ?_) (fun hb => ?_))) <;> try simp (maxSteps := 1000000) -implicitDefEqProofs only [push_cast, seval]) | with_reducible refine And.intro ?_ ?_ | omega | (simp only [alloc_n, set_n, kill_n]; omega) | (exfalso; omega))
  all_goals (obtain ⟨a1, a2, a3⟩ := a; obtain ⟨b1, b2, b3⟩ := b; simp_all [Cell.mk.injEq])
theorem take_next {α : Type} {l m : List α} {i : Nat} (e : l.take i = m.take i) (hi : i < l.length) (hj : i < m.length) (h : l[i] = m[i]) : l.take (i + 1) = m.take (i + 1) := by
  rw [List.take_add_one, List.take_add_one, e, List.getElem?_eq_getElem hi, List.getElem?_eq_getElem hj, h]
theorem take_full {α : Type} {l m : List α} (e : l.take l.length = m.take l.length) (h : l.length = m.length) : l = m := by
  rw [List.take_length, h, List.take_length] at e; exact e
theorem eqVarS_c (l m : List Var) (A B : Option Addr) (ca cb : Nat) (h : AH) (hA : RdE h A 2 Var.enc l) (hB : RdE h B 2 Var.enc m) (hl : l.length < 274877906944) (hm : m.length < 274877906944) :
    CD Try.prog 85 [.slice A l.length ca, .slice B m.length cb] h (.bool (decide (l = m))) h := by
  refine CD.withBig (fun big => ?_)
  refine CD.quiet ?_ (low_bool _ _)
  refine CC.ofN Try.func85 Try.ntmps85 Try.results85 rfl (by decide) (by kernel_rfl) ?_
  simp (maxSteps := 1000000) -implicitDefEqProofs only [push_cast, seval]
  with_reducible refine bcase_d (fun hb => ?_) (fun hb => ?_)
  rotate_left
  · simp (maxSteps := 1000000) -implicitDefEqProofs only [push_cast, seval]
    repeat' (first | with_reducible (first | exact Keep.refl _ _ | assumption | exact byte_lt _ _ | apply Keep.alloc | (refine Keep.set ?_ ?_; rotate_left; · omega) | apply Pre.alloc | apply Pre.set | exact Pre.refl _ | exact le_alloc _ | (refine Pre.keep ?_; assumption) | (refine Pre.n ?_; assumption)) | ((with_reducible (first | refine bcase_d (fun hb => ?_) (fun hb => ?_) | refine bcase_mk (fun hb => ?_) (fun hb => ?_))) <;> try simp (maxSteps := 1000000) -implicitDefEqProofs only [push_cast, seval]) | with_reducible refine And.intro ?_ ?_ | omega | (simp only [alloc_n, set_n, kill_n]; omega) | (exfalso; omega))
    have : l ≠ m := fun e => hb (by rw [e])
    simp [this]
  have hlm : l.length = m.length := by omega
  simp (maxSteps := 1000000) -implicitDefEqProofs only [push_cast, seval]
  refine WC.loopA (by kernel_rfl) [5] [4, 11, 12, 13, 14, 15, 16, 17, 18, 19, 20, 21, 22, 23, 24, 25, 26] (fun a : Nat => [.int .i64 (a : Nat)]) (fun a h' => a ≤ l.length ∧ l.take a = m.take a ∧ Pre h h') (fun a => l.length - a) 0 (by kernel_rfl) ⟨Nat.zero_le _, by simp, Pre.refl _⟩ ?_
  intro a g h1 hJ
  have hi := hJ.1
  have he := hJ.2.1
  have hp := hJ.2.2
  clear hJ
  simp (maxSteps := 1000000) -implicitDefEqProofs only [push_cast, seval]
  with_reducible refine bcase_d (fun hb => ?_) (fun hb => ?_)
  · have hi' : a < l.length := by omega
    have hj' : a < m.length := by omega
    with_reducible refine hA.use big hp hi' (fun id off eA hlt hr => ?_)
    with_reducible refine hB.use big hp hj' (fun id2 off2 eB hlt2 hr2 => ?_)
    subst eA
    subst eB
    simp only [Var.enc] at hr hr2
    simp (maxSteps := 1000000) -implicitDefEqProofs only [push_cast, seval, hr, hlt, hr2, hlt2]
    refine WC.draw' (by kernel_rfl) (by kernel_rfl) (.q 0 (.q 1 (.q 2 (.q 3 (.q 4 (.q 5 (.q 6 (.q 7 (.c 8 (.q 9 (.done))))))))))) (by kernel_rfl) ?_
    simp (maxSteps := 1000000) -implicitDefEqProofs only [push_cast, seval, hr, hlt, hr2, hlt2]
    repeat' (first | with_reducible (first | exact Keep.refl _ _ | assumption | exact byte_lt _ _ | apply Keep.alloc | (refine Keep.set ?_ ?_; rotate_left; · omega) | apply Pre.alloc | apply Pre.set | exact Pre.refl _ | exact le_alloc _ | (refine Pre.keep ?_; assumption) | (refine Pre.n ?_; assumption)) | ((with_reducible (first | refine CD.to (eqVar_c _ _ _) ?_ | refine CQ.pure (fun _ => eqVar_c _ _ _) ?_ | refine bcase_d (fun hb => ?_) (fun hb => ?_) | refine bcase_mk (fun hb => ?_) (fun hb => ?_))) <;> try simp (maxSteps := 1000000) -implicitDefEqProofs only [push_cast, seval, hr, hlt, hr2, hlt2]) | with_reducible refine And.intro ?_ ?_ | omega | (simp only [alloc_n, set_n, kill_n]; omega) | (exfalso; omega))
    · rw [wrapSucc (by omega)]
      refine ⟨a + 1, by kernel_rfl, ⟨by show a + 1 ≤ l.length; omega, take_next he hi' hj' ?_, hp⟩, by show l.length - (a + 1) < l.length - a; omega⟩
      simpa using hb
    · have : l ≠ m := fun e => by subst e; simp at hb
      simp [this]
  · have hn : a = l.length := by omega
    subst hn
    simp (maxSteps := 1000000) -implicitDefEqProofs only [push_cast, seval]
    repeat' (first | with_reducible (first | exact Keep.refl _ _ | assumption | exact byte_lt _ _ | apply Keep.alloc | (refine Keep.set ?_ ?_; rotate_left; · omega) | apply Pre.alloc | apply Pre.set | exact Pre.refl _ | exact le_alloc _ | (refine Pre.keep ?_; assumption) | (refine Pre.n ?_; assumption)) | ((with_reducible (first | refine bcase_d (fun hb => ?_) (fun hb => ?_) | refine bcase_mk (fun hb => ?_) (fun hb => ?_))) <;> try simp (maxSteps := 1000000) -implicitDefEqProofs only [push_cast, seval]) | with_reducible refine And.intro ?_ ?_ | omega | (simp only [alloc_n, set_n, kill_n]; omega) | (exfalso; omega))
    have := take_full he hlm
    simp [this]
theorem eqCellS_c (l m : List Cell) (A B : Option Addr) (ca cb : Nat) (h : AH) (hA : RdE h A 3 Cell.enc l) (hB : RdE h B 3 Cell.enc m) (hl : l.length < 274877906944) (hm : m.length < 274877906944) :
    CD Try.prog 86 [.slice A l.length ca, .slice B m.length cb] h (.bool (decide (l = m))) h := by
  refine CD.withBig (fun big => ?_)
  refine CD.quiet ?_ (low_bool _ _)
  refine CC.ofN Try.func86 Try.ntmps86 Try.results86 rfl (by decide) (by kernel_rfl) ?_
  simp (maxSteps := 1000000) -implicitDefEqProofs only [push_cast, seval]
  with_reducible refine bcase_d (fun hb => ?_) (fun hb => ?_)
  rotate_left
  · simp (maxSteps := 1000000) -implicitDefEqProofs only [push_cast, seval]
    repeat' (first | with_reducible (first | exact Keep.refl _ _ | assumption | exact byte_lt _ _ | apply Keep.alloc | (refine Keep.set ?_ ?_; rotate_left; · omega) | apply Pre.alloc | apply Pre.set | exact Pre.refl _ | exact le_alloc _ | (refine Pre.keep ?_; assumption) | (refine Pre.n ?_; assumption)) | ((with_reducible (first | refine bcase_d (fun hb => ?_) (fun hb => ?_) | refine bcase_mk (fun hb => ?_) (fun hb => ?_))) <;> try simp (maxSteps := 1000000) -implicitDefEqProofs only [push_cast, seval]) | with_reducible refine And.intro ?_ ?_ | omega | (simp only [alloc_n, set_n, kill_n]; omega) | (exfalso; omega))
    have : l ≠ m := fun e => hb (by rw [e])
    simp [this]
  have hlm : l.length = m.length := by omega
  simp (maxSteps := 1000000) -implicitDefEqProofs only [push_cast, seval]
  refine WC.loopA (by kernel_rfl) [5] [4, 11, 12, 13, 14, 15, 16, 17, 18, 19, 20, 21, 22, 23, 24, 25, 26] (fun a : Nat => [.int .i64 (a : Nat)]) (fun a h' => a ≤ l.length ∧ l.take a = m.take a ∧ Pre h h') (fun a => l.length - a) 0 (by kernel_rfl) ⟨Nat.zero_le _, by simp, Pre.refl _⟩ ?_
  intro a g h1 hJ
  have hi := hJ.1
  have he := hJ.2.1
  have hp := hJ.2.2
  clear hJ
  simp (maxSteps := 1000000) -implicitDefEqProofs only [push_cast, seval]
  with_reducible refine bcase_d (fun hb => ?_) (fun hb => ?_)
  · have hi' : a < l.length := by omega
    have hj' : a < m.length := by omega
    with_reducible refine hA.use big hp hi' (fun id off eA hlt hr => ?_)
    with_reducible refine hB.use big hp hj' (fun id2 off2 eB hlt2 hr2 => ?_)
    subst eA
    subst eB
    simp only [Cell.enc] at hr hr2
    simp (maxSteps := 1000000) -implicitDefEqProofs only [push_cast, seval, hr, hlt, hr2, hlt2]
    refine WC.draw' (by kernel_rfl) (by kernel_rfl) (.q 0 (.q 1 (.q 2 (.q 3 (.q 4 (.q 5 (.q 6 (.q 7 (.c 8 (.q 9 (.done))))))))))) (by kernel_rfl) ?_
    simp (maxSteps := 1000000) -implicitDefEqProofs only [push_cast, seval, hr, hlt, hr2, hlt2]
    repeat' (first | with_reducible (first | exact Keep.refl _ _ | assumption | exact byte_lt _ _ | apply Keep.alloc | (refine Keep.set ?_ ?_; rotate_left; · omega) | apply Pre.alloc | apply Pre.set | exact Pre.refl _ | exact le_alloc _ | (refine Pre.keep ?_; assumption) | (refine Pre.n ?_; assumption)) | ((with_reducible (first | refine CD.to (eqCell_c _ _ _) ?_ | refine CQ.pure (fun _ => eqCell_c _ _ _) ?_ | refine bcase_d (fun hb => ?_) (fun hb => ?_) | refine bcase_mk (fun hb => ?_) (fun hb => ?_))) <;> try simp (maxSteps := 1000000) -implicitDefEqProofs only [push_cast, seval, hr, hlt, hr2, hlt2]) | with_reducible refine And.intro ?_ ?_ | omega | (simp only [alloc_n, set_n, kill_n]; omega) | (exfalso; omega))
    · rw [wrapSucc (by omega)]
      refine ⟨a + 1, by kernel_rfl, ⟨by show a + 1 ≤ l.length; omega, take_next he hi' hj' ?_, hp⟩, by show l.length - (a + 1) < l.length - a; omega⟩
      simpa using hb
    · have : l ≠ m := fun e => by subst e; simp at hb
      simp [this]
  · have hn : a = l.length := by omega
    subst hn
    simp (maxSteps := 1000000) -implicitDefEqProofs only [push_cast, seval]
    repeat' (first | with_reducible (first | exact Keep.refl _ _ | assumption | exact byte_lt _ _ | apply Keep.alloc | (refine Keep.set ?_ ?_; rotate_left; · omega) | apply Pre.alloc | apply Pre.set | exact Pre.refl _ | exact le_alloc _ | (refine Pre.keep ?_; assumption) | (refine Pre.n ?_; assumption)) | ((with_reducible (first | refine bcase_d (fun hb => ?_) (fun hb => ?_) | refine bcase_mk (fun hb => ?_) (fun hb => ?_))) <;> try simp (maxSteps := 1000000) -implicitDefEqProofs only [push_cast, seval]) | with_reducible refine And.intro ?_ ?_ | omega | (simp only [alloc_n, set_n, kill_n]; omega) | (exfalso; omega))
    have := take_full he hlm
    simp [this]
theorem eqStore_c (s t : Store) (A B C D : Option Addr) (ca cb cc cd : Nat) (h : AH) (hs : RdS h A B s) (ht : RdS h C D t) (zs : Sz s) (zt : Sz t) :
    CD Try.prog 43 [.agg #[.slice A s.vars.length ca, .slice B s.cells.length cb, .string s.out], .agg #[.slice C t.vars.length cc, .slice D t.cells.length cd, .string t.out]] h (.bool (decide (s = t))) h := by
  refine CD.withBig (fun big => ?_)
  refine CD.quiet ?_ (low_bool _ _)
  have pb : Pre h ((h.alloc (AOb.cells [Value.slice A s.vars.length ca, Value.slice B s.cells.length cb, Value.string s.out] Stat.solo h.n)).alloc (AOb.cells [Value.slice C t.vars.length cc, Value.slice D t.cells.length cd, Value.string t.out] Stat.solo (h.n + 1))) := ((Pre.refl _).alloc _).alloc _
  have hV := eqVarS_c s.vars t.vars A C ca cc _ (hs.vars.pre big pb) (ht.vars.pre big pb) zs.nv zt.nv
  have hC := eqCellS_c s.cells t.cells B D cb cd _ (hs.cells.pre big pb) (ht.cells.pre big pb) zs.nc zt.nc
  refine CC.ofN Try.func43 Try.ntmps43 Try.results43 rfl (by decide) (by kernel_rfl) ?_
  simp (maxSteps := 1000000) -implicitDefEqProofs only [push_cast, seval]
  repeat' (first | with_reducible (first | exact Keep.refl _ _ | assumption | exact byte_lt _ _ | apply Keep.alloc | (refine Keep.set ?_ ?_; rotate_left; · omega) | apply Pre.alloc | apply Pre.set | exact Pre.refl _ | exact le_alloc _ | (refine Pre.keep ?_; assumption) | (refine Pre.n ?_; assumption)) | ((with_reducible (first | refine CD.to (hV) ?_ | refine CQ.pure (fun _ => hV) ?_ | refine CD.to (hC) ?_ | refine CQ.pure (fun _ => hC) ?_ | refine bcase_d (fun hb => ?_) (fun hb => ?_) | refine bcase_mk (fun hb => ?_) (fun hb => ?_))) <;> try simp (maxSteps := 1000000) -implicitDefEqProofs only [push_cast, seval]) | with_reducible refine And.intro ?_ ?_ | omega | (simp only [alloc_n, set_n, kill_n]; omega) | (exfalso; omega))
  all_goals (obtain ⟨a1, a2, a3⟩ := s; obtain ⟨b1, b2, b3⟩ := t; simp_all [Store.mk.injEq])
end Go.Proofs.Ytfbcedjheempfaa
namespace Go.Proofs.Ytfbcedjheempfaa
open Go Go.Sim Go.Proofs
set_option linter.unusedSimpArgs false
set_option linter.unusedVariables false
set_option maxRecDepth 100000
set_option maxHeartbeats 1000000
theorem law_StoreText (s : Store) (A B : Option Addr) (ca cb : Nat) (h : AH) (hR : RdS h A B s) (hz0 : SzA s) (big : Big h) : CE Try.prog 9 [.agg #[.slice A s.vars.length ca, .slice B s.cells.length cb, .string s.out]] h fun v _ => v = .bool true := by
  have pb : Pre h (h.alloc (AOb.cells [Value.slice A s.vars.length ca, Value.slice B s.cells.length cb, Value.string s.out] Stat.solo h.n)) := (Pre.refl _).alloc _
  have r1 : RdS (h.alloc (AOb.cells [Value.slice A s.vars.length ca, Value.slice B s.cells.length cb, Value.string s.out] Stat.solo h.n)) A B s := ⟨hR.vars.pre big pb, hR.cells.pre big pb⟩
  have hS := szStore_c s A B ca cb 1048576 _ r1 hz0 (by omega)
  refine CE.ofN Try.func9 Try.ntmps9 Try.results9 rfl (by kernel_rfl) ?_
  simp (maxSteps := 1000000) -implicitDefEqProofs only [push_cast, seval]
  repeat' (first | with_reducible (first | exact Keep.refl _ _ | assumption | exact byte_lt _ _ | apply Keep.alloc | (refine Keep.set ?_ ?_; rotate_left; · omega) | apply Pre.alloc | apply Pre.set | exact Pre.refl _ | exact le_alloc _ | (refine Pre.keep ?_; assumption) | (refine Pre.n ?_; assumption)) | ((with_reducible (first | refine CD.to (hS) ?_ | refine CQ.pure (fun _ => hS) ?_ | refine bcase_d (fun hb => ?_) (fun hb => ?_) | refine bcase_mk (fun hb => ?_) (fun hb => ?_))) <;> try simp (maxSteps := 1000000) -implicitDefEqProofs only [push_cast, seval]) | with_reducible refine And.intro ?_ ?_ | omega | (simp only [alloc_n, set_n, kill_n]; omega) | (exfalso; omega))
  have hz : Sz s := hz0.sz (by
    have e : ¬ ((1048576 : Int) - storeW s < 0) := fun e => hb (by rw [if_pos e]; decide)
    omega)
  with_reducible refine CC.mono (toStore_c s A B ca cb _ r1 hz) (fun v h1 hv => ?_)
  with_reducible refine Exists.elim hv (fun A1 hv => ?_)
  with_reducible refine Exists.elim hv (fun B1 hv => ?_)
  have e1 := hv.1
  have f1 := hv.2.1
  have p1 := hv.2.2
  clear hv
  subst e1
  have q1 : Pre h h1 := pb.trans p1
  have l1 : h.n < h1.n := Nat.lt_of_lt_of_le (lt_alloc _) p1.n
  have o1 : h1.ob h.n = _ := (p1.ob _ (lt_alloc _)).trans (alloc_same _)
  have hT := StoreText_s s A1 B1 2 3 _ (f1 _ (Pre.refl _)) hz
  simp (maxSteps := 1000000) -implicitDefEqProofs only [push_cast, seval, rd_of o1, rd1_of o1, l1]
  repeat' (first | with_reducible (first | exact Keep.refl _ _ | assumption | exact byte_lt _ _ | apply Keep.alloc | (refine Keep.set ?_ ?_; rotate_left; · omega) | apply Pre.alloc | apply Pre.set | exact Pre.refl _ | exact le_alloc _ | (refine Pre.keep ?_; assumption) | (refine Pre.n ?_; assumption)) | ((with_reducible (first | refine CD.to (hT) ?_ | refine CQ.pure (fun _ => hT) ?_ | refine bcase_d (fun hb => ?_) (fun hb => ?_) | refine bcase_mk (fun hb => ?_) (fun hb => ?_))) <;> try simp (maxSteps := 1000000) -implicitDefEqProofs only [push_cast, seval, rd_of o1, rd1_of o1, l1]) | with_reducible refine And.intro ?_ ?_ | omega | (simp only [alloc_n, set_n, kill_n]; omega) | (exfalso; omega))
  have r2 : RdS h1 A B s := ⟨hR.vars.pre big q1, hR.cells.pre big q1⟩
  with_reducible refine CC.mono (toStore_c s A B ca cb _ r2 hz) (fun v h2 hv => ?_)
  with_reducible refine Exists.elim hv (fun A2 hv => ?_)
  with_reducible refine Exists.elim hv (fun B2 hv => ?_)
  have e1 := hv.1
  have f2 := hv.2.1
  have p2 := hv.2.2
  clear hv
  subst e1
  have q2 : Pre h h2 := q1.trans p2
  have l2 : h.n < h2.n := Nat.lt_of_lt_of_le l1 p2.n
  have o2 : h2.ob h.n = _ := (p2.ob _ l1).trans o1
  have t2 : Pre h2 ((h2.alloc (AOb.cells [Value.slice none 0 0, Value.slice none 0 0, Value.string ⟨#[]⟩] Stat.solo h2.n)).set h2.n (AOb.cells [Value.slice A2 s.vars.length 2, Value.slice B2 s.cells.length 3, Value.string s.out] Stat.solo h2.n)) := ((Pre.refl _).alloc _).set (Nat.le_refl _) _
  have hU := StoreText_i s A2 B2 2 3 _ (f2 _ t2) hz
  simp (maxSteps := 1000000) -implicitDefEqProofs only [push_cast, seval, rd_of o2, rd1_of o2, l2]
  repeat' (first | with_reducible (first | exact Keep.refl _ _ | assumption | exact byte_lt _ _ | apply Keep.alloc | (refine Keep.set ?_ ?_; rotate_left; · omega) | apply Pre.alloc | apply Pre.set | exact Pre.refl _ | exact le_alloc _ | (refine Pre.keep ?_; assumption) | (refine Pre.n ?_; assumption)) | ((with_reducible (first | refine CD.to (hU) ?_ | refine CQ.pure (fun _ => hU) ?_ | refine bcase_d (fun hb => ?_) (fun hb => ?_) | refine bcase_mk (fun hb => ?_) (fun hb => ?_))) <;> try simp (maxSteps := 1000000) -implicitDefEqProofs only [push_cast, seval, rd_of o2, rd1_of o2, l2]) | with_reducible refine And.intro ?_ ?_ | omega | (simp only [alloc_n, set_n, kill_n]; omega) | (exfalso; omega))
  rotate_left
  · simp at hb
  refine WC.draw' (by kernel_rfl) (by kernel_rfl) (.q 0 (.q 1 (.a 2 false (.a 3 false (.q 4 (.done)))))) (by kernel_rfl) ?_
  simp (maxSteps := 1000000) -implicitDefEqProofs only [push_cast, seval, rd_of o2, rd1_of o2, l2]
  have q3 := q2.trans t2
  have r3 := (show RdS _ A B s from ⟨hR.vars.pre big q3, hR.cells.pre big q3⟩)
  with_reducible refine CC.mono (toStore_c s A B ca cb _ r3 hz) (fun v h3 hv => ?_)
  with_reducible refine Exists.elim hv (fun A3 hv => ?_)
  with_reducible refine Exists.elim hv (fun B3 hv => ?_)
  have e1 := hv.1
  have f3 := hv.2.1
  have p3 := hv.2.2
  clear hv
  subst e1
  have l3 : h2.n < h3.n := Nat.lt_of_lt_of_le (Nat.lt_succ_self h2.n) p3.n
  have k3 : h3.ob h2.n = AOb.cells [Value.slice A2 s.vars.length 2, Value.slice B2 s.cells.length 3, Value.string s.out] Stat.solo h2.n := (p3.ob _ (by show h2.n < h2.n + 1; omega)).trans (set_same _ _)
  have hE := eqStore_c s s A2 B2 A3 B3 2 3 2 3 h3 (f2 _ (t2.trans p3)) (f3 _ (Pre.refl _)) hz hz
  simp (maxSteps := 1000000) -implicitDefEqProofs only [push_cast, seval, k3, rd_of k3, rd1_of k3, l3]
  have l4 := p3.ob h.n (show h.n < h2.n + 1 by omega)
  with_reducible refine And.intro l4 ?_
  repeat' (first | with_reducible (first | exact Keep.refl _ _ | assumption | exact byte_lt _ _ | apply Keep.alloc | (refine Keep.set ?_ ?_; rotate_left; · omega) | apply Pre.alloc | apply Pre.set | exact Pre.refl _ | exact le_alloc _ | (refine Pre.keep ?_; assumption) | (refine Pre.n ?_; assumption)) | ((with_reducible (first | refine CD.to (hE) ?_ | refine CQ.pure (fun _ => hE) ?_ | refine bcase_d (fun hb => ?_) (fun hb => ?_) | refine bcase_mk (fun hb => ?_) (fun hb => ?_))) <;> try simp (maxSteps := 1000000) -implicitDefEqProofs only [push_cast, seval]) | with_reducible refine And.intro ?_ ?_ | omega | (simp only [alloc_n, set_n, kill_n]; omega) | (exfalso; omega))
end Go.Proofs.Ytfbcedjheempfaa
/- Slices that are handed in, read as lists. Conditions: those that each theorem names. -/
set_option linter.unusedVariables false
set_option linter.unusedSimpArgs false
namespace Go.Sim
variable {P : Program} {h : AH}

theorem CE.withBig {f : FuncId} {args : List Value} {R : Value → AH → Prop} (hc : Big h → CE P f args h R) : CE P f args h R := fun FB w0 μ w cargs R' s => hc s.big FB w0 μ w cargs R' s
theorem chunk_len {α : Type} {k : Nat} {enc : α → List Value} : ∀ {l : List α}, (∀ x ∈ l, (enc x).length = k) → (l.map enc).flatten.length = l.length * k
  | [], _ => by simp
  | x :: r, hl => by
    simp only [List.map_cons, List.flatten_cons, List.length_append, List.length_cons, hl x (by simp), chunk_len (l := r) (fun y hy => hl y (by simp [hy])), Nat.succ_mul]
    omega
theorem chunk_at {α : Type} {k : Nat} {enc : α → List Value} : ∀ {l : List α} (i : Nat) (hi : i < l.length), (∀ x ∈ l, (enc x).length = k) → (((l.map enc).flatten).drop (i * k)).take k = enc l[i]
  | x :: r, 0, _, hl => by
    have e := hl x (by simp)
    simp [← e]
  | x :: r, i + 1, hi, hl => by
    have e := hl x (by simp)
    have ih := chunk_at (l := r) i (by simpa using hi) (fun y hy => hl y (by simp [hy]))
    simp only [List.map_cons, List.flatten_cons, List.getElem_cons_succ, Nat.succ_mul]
    rw [List.drop_append, e, show i * k + k - k = i * k by omega, List.drop_eq_nil_of_le (by rw [e]; omega), List.nil_append]
    exact ih
theorem lift_map {α : Type} {enc : α → List Value} {ok : α → Prop} : ∀ (chs : List (List Value)), (∀ c ∈ chs, ∃ x, c = enc x ∧ ok x) → ∃ l : List α, chs = l.map enc ∧ ∀ x ∈ l, ok x
  | [], _ => ⟨[], rfl, by simp⟩
  | c :: r, hc => by
    obtain ⟨x, rfl, hx⟩ := hc c (by simp)
    obtain ⟨l, rfl, hl⟩ := lift_map r (fun d hd => hc d (by simp [hd]))
    exact ⟨x :: l, rfl, by simpa using ⟨hx, hl⟩⟩
theorem Rep.list {α : Type} {t e : TypeId} {k : Nat} {cs : List Value} (enc : α → List Value) (ok : α → Prop) (ht : P.underlying t = some (.slice e)) (hk : P.cellsOf e = k) (dec : ∀ c, Rep P h e c → ∃ x, c = enc x ∧ ok x) (r : Rep P h t cs) :
    ∃ A c, ∃ l : List α, cs = [.slice A l.length c] ∧ RdE h A k enc l ∧ (∀ x ∈ l, ok x) ∧ l.length ≤ maxLen := by
  cases r with
  | nil _ e' c ht' => exact ⟨none, c, [], rfl, RdE.nil _ _ _, by simp, by simp⟩
  | slice _ e' id n ln chs ht' hid ho hn hm hl hr =>
    rw [ht] at ht'
    simp only [Option.some.injEq, TypeDesc.slice.injEq] at ht'
    subst ht'
    obtain ⟨l, rfl, hok⟩ := lift_map (enc := enc) (ok := ok) chs (fun c hc => by
      obtain ⟨i, hi, rfl⟩ := List.mem_iff_getElem.1 hc
      exact dec _ (hr i hi))
    have hlen : ∀ x ∈ l, (enc x).length = k := fun x hx => by
      obtain ⟨i, hi, rfl⟩ := List.mem_iff_getElem.1 hx
      have := hl i (by simpa using hi)
      simpa [hk] using this
    rw [List.length_map] at hn
    subst hn
    refine ⟨some ⟨id, 0, none⟩, P.cellsOf e, l, rfl, fun i hi => ⟨id, 0, rfl, ?_⟩, hok, hm⟩
    have hb : i * k + k ≤ l.length * k := by rw [← Nat.succ_mul]; exact Nat.mul_le_mul_right k hi
    rw [rd_of ho, rdO_cells, Nat.zero_add, if_pos (by rw [chunk_len hlen]; exact hb), chunk_at i hi hlen]
  | _ => simp_all
theorem flat_len {α : Type} {k : Nat} {enc : α → List Value} (l : List α) (hl : ∀ x, (enc x).length = k) : (l.map enc).flatten.length = l.length * k := by
  induction l with
  | nil => simp
  | cons x r ih => simp only [List.map_cons, List.flatten_cons, List.length_append, List.length_cons, hl, ih, Nat.succ_mul]; omega
theorem flat_snoc {α : Type} (enc : α → List Value) (l : List α) (x : α) : ((l ++ [x]).map enc).flatten = (l.map enc).flatten ++ enc x := by simp
theorem Gr.not_low {n0 : Nat} {h : AH} {v : Value} {k : Nat} {cs : List Value} (w : Gr n0 h v k cs) {i : Nat} (hi : i < n0) : ¬ atBlock v i := by
  rcases w with ⟨c, rfl, rfl⟩ | ⟨id, off, n, rfl, b, o⟩
  · exact id
  · exact fun e => by have e' : id = i := e; omega
theorem Gr.mono {n0 n1 : Nat} {h : AH} {v : Value} {k : Nat} {cs : List Value} (w : Gr n0 h v k cs) (hn : n1 ≤ n0) : Gr n1 h v k cs := by
  rcases w with w | ⟨id, off, n, e, b, o⟩
  · exact .inl w
  · exact .inr ⟨id, off, n, e, by omega, o⟩
theorem Gr.range {n0 : Nat} {h : AH} {v : Value} {k : Nat} {cs : List Value} (w : Gr n0 h v k cs) {i : Nat} (e : atBlock v i) : n0 ≤ i ∧ i < h.n := by
  rcases w with ⟨c, rfl, rfl⟩ | ⟨id, off, n, rfl, b, o⟩
  · exact e.elim
  · have e' : id = i := e
    have := o.lt
    omega
theorem zl2 (a b : Value) : zerosL 2 [a, b] = [a, b] := rfl
theorem zl3 (a b c : Value) : zerosL 3 [a, b, c] = [a, b, c] := rfl
theorem six_ob {h1 : AH} {p : Nat} (o1 o2 o3 o4 o5 o6 : AOb) {i : Nat} (hi : i ≠ p) (hl : i < h1.n) : ((((((h1.alloc o1).set h1.n o2).set p o3).set h1.n o4).set p o5).set h1.n o6).ob i = h1.ob i := by
  rw [set_ne _ (by omega), set_ne _ (by omega), set_ne _ (by omega), set_ne _ (by omega), set_ne _ (by omega), alloc_lt _ hl]
theorem six_at {h1 : AH} {p : Nat} (o1 o2 o3 o4 o5 o6 : AOb) (hl : p < h1.n) : ((((((h1.alloc o1).set h1.n o2).set p o3).set h1.n o4).set p o5).set h1.n o6).ob p = o5 := by
  rw [set_ne _ (by omega), set_same]
theorem six_pre {h0 h1 : AH} {p : Nat} (o1 o2 o3 o4 o5 o6 : AOb) (hp : Pre h0 h1) (hl : h0.n ≤ p) : Pre h0 ((((((h1.alloc o1).set h1.n o2).set p o3).set h1.n o4).set p o5).set h1.n o6) :=
  (((((hp.alloc _).set hp.n _).set hl _).set hp.n _).set hl _).set hp.n _
theorem eight_ob {h1 : AH} {p : Nat} (o1 o2 o3 o4 o5 o6 o7 o8 : AOb) {i : Nat} (hi : i ≠ p) (hl : i < h1.n) : ((((((((h1.alloc o1).set h1.n o2).set p o3).set h1.n o4).set p o5).set h1.n o6).set p o7).set h1.n o8).ob i = h1.ob i := by
  rw [set_ne _ (by omega), set_ne _ (by omega), set_ne _ (by omega), set_ne _ (by omega), set_ne _ (by omega), set_ne _ (by omega), set_ne _ (by omega), alloc_lt _ hl]
theorem eight_at {h1 : AH} {p : Nat} (o1 o2 o3 o4 o5 o6 o7 o8 : AOb) (hl : p < h1.n) : ((((((((h1.alloc o1).set h1.n o2).set p o3).set h1.n o4).set p o5).set h1.n o6).set p o7).set h1.n o8).ob p = o7 := by
  rw [set_ne _ (by omega), set_same]
theorem eight_pre {h0 h1 : AH} {p : Nat} (o1 o2 o3 o4 o5 o6 o7 o8 : AOb) (hp : Pre h0 h1) (hl : h0.n ≤ p) : Pre h0 ((((((((h1.alloc o1).set h1.n o2).set p o3).set h1.n o4).set p o5).set h1.n o6).set p o7).set h1.n o8) :=
  (((((((hp.alloc _).set hp.n _).set hl _).set hp.n _).set hl _).set hp.n _).set hl _).set hp.n _
theorem Gr.read {α : Type} {n0 : Nat} {h : AH} {v : Value} {k : Nat} {enc : α → List Value} {l : List α} (w : Gr n0 h v k (l.map enc).flatten) (hk : 0 < k) (hl : ∀ x, (enc x).length = k) :
    ∃ A c, v = .slice A l.length c ∧ ∀ h2 : AH, (∀ i, n0 ≤ i → i < h.n → h2.ob i = h.ob i) → RdE h2 A k enc l := by
  rcases w with ⟨c, rfl, e⟩ | ⟨id, off, n, rfl, b, o⟩
  · have hf := flat_len (enc := enc) l hl
    rw [e] at hf
    have : l.length = 0 := by
      rcases Nat.eq_zero_or_pos l.length with e0 | e0
      · exact e0
      · have := Nat.mul_pos e0 hk
        simp at hf; omega
    exact ⟨none, c, by rw [this], fun h2 _ i hi => absurd hi (by omega)⟩
  · have hf := flat_len (enc := enc) l hl
    have hn : n = l.length := Nat.eq_of_mul_eq_mul_right hk (o.len.symm.trans hf)
    subst hn
    refine ⟨some ⟨id, off, none⟩, k, rfl, fun h2 he i hi => ⟨id, off, rfl, ?_⟩⟩
    obtain ⟨all, st, ln, ho, _, htot, hd⟩ := o.ob
    have hb : i * k + k ≤ l.length * k := by rw [← Nat.succ_mul]; exact Nat.mul_le_mul_right k hi
    rw [rd_of ((he id b o.lt).trans ho), rdO_cells, if_pos (by omega), ← List.drop_drop, hd, chunk_at i hi (fun x _ => hl x)]
theorem fiveS_ob {h1 : AH} {p : Nat} (o1 o2 o3 o4 o5 : AOb) {i : Nat} (hi : i ≠ p) (hl : i < h1.n) : (((((h1.set p o1).alloc o2).set h1.n o3).set p o4).set h1.n o5).ob i = h1.ob i := by
  rw [set_ne _ (by omega), set_ne _ (by omega), set_ne _ (by omega)]
  exact (alloc_lt (h := h1.set p o1) _ hl).trans (set_ne _ hi)
theorem fiveS_at {h1 : AH} {p : Nat} (o1 o2 o3 o4 o5 : AOb) (hl : p < h1.n) : (((((h1.set p o1).alloc o2).set h1.n o3).set p o4).set h1.n o5).ob p = o4 := by
  rw [set_ne _ (by omega), set_same]
theorem fiveS_pre {h0 h1 : AH} {p : Nat} (o1 o2 o3 o4 o5 : AOb) (hp : Pre h0 h1) (hl : h0.n ≤ p) : Pre h0 (((((h1.set p o1).alloc o2).set h1.n o3).set p o4).set h1.n o5) :=
  ((((hp.set hl _).alloc _).set hp.n _).set hl _).set hp.n _
theorem sevenS_ob {h1 : AH} {p : Nat} (o1 o2 o3 o4 o5 o6 o7 : AOb) {i : Nat} (hi : i ≠ p) (hl : i < h1.n) : (((((((h1.set p o1).alloc o2).set h1.n o3).set p o4).set h1.n o5).set p o6).set h1.n o7).ob i = h1.ob i := by
  rw [set_ne _ (by omega), set_ne _ (by omega), set_ne _ (by omega), set_ne _ (by omega), set_ne _ (by omega)]
  exact (alloc_lt (h := h1.set p o1) _ hl).trans (set_ne _ hi)
theorem sevenS_at {h1 : AH} {p : Nat} (o1 o2 o3 o4 o5 o6 o7 : AOb) (hl : p < h1.n) : (((((((h1.set p o1).alloc o2).set h1.n o3).set p o4).set h1.n o5).set p o6).set h1.n o7).ob p = o6 := by
  rw [set_ne _ (by omega), set_same]
theorem sevenS_pre {h0 h1 : AH} {p : Nat} (o1 o2 o3 o4 o5 o6 o7 : AOb) (hp : Pre h0 h1) (hl : h0.n ≤ p) : Pre h0 (((((((h1.set p o1).alloc o2).set h1.n o3).set p o4).set h1.n o5).set p o6).set h1.n o7) :=
  ((((((hp.set hl _).alloc _).set hp.n _).set hl _).set hp.n _).set hl _).set hp.n _
end Go.Sim
namespace Go.Proofs.Ytfbcedjheempfaa
open Go Go.Sim Go.Proofs
set_option linter.unusedSimpArgs false
set_option linter.unusedVariables false
set_option maxRecDepth 100000
set_option maxHeartbeats 1000000
/-- What a reader in some state reads as a short text, and its state behind it. -/
def shT (s : ByteArray) (r : Nat × Bool) : ByteArray := sT s (if r.2 then none else rs s r.1)
def shN (s : ByteArray) (r : Nat × Bool) : Nat × Bool := (nxT (if r.2 then none else rs s r.1) r.1, (if r.2 then none else rs s r.1).isNone)
def ctV (s : ByteArray) (most : Int) (r : Nat × Bool) : Int := if most < oN (if r.2 then none else rv s r.1) then 0 else oN (if r.2 then none else rv s r.1)
def ctN (s : ByteArray) (most : Int) (r : Nat × Bool) : Nat × Bool := (nxN (if r.2 then none else rv s r.1) r.1, (if r.2 then none else rv s r.1).isNone || decide (most < oN (if r.2 then none else rv s r.1)))
def rdP (p : Nat) (s : ByteArray) (r : Nat × Bool) : AOb := .cells [.string s, .int .i64 (r.1 : Nat), .bool r.2] .solo p
theorem short_p (p : Nat) (s : ByteArray) (r : Nat × Bool) (hs : s.size ≤ maxLen - 16) (h : AH) (e : h.ob p = rdP p s r) : CD Try.prog 89 [.pointer (some ⟨p, 0, none⟩)] h (.string (shT s r)) (h.set p (rdP p s (shN s r))) := short_c p s r.1 r.2 hs h e
theorem l07Short_p (p : Nat) (s : ByteArray) (r : Nat × Bool) (hs : s.size ≤ maxLen - 16) (h : AH) (e : h.ob p = rdP p s r) : CD Try.prog 87 [.pointer (some ⟨p, 0, none⟩)] h (.string (shT s r)) (h.set p (rdP p s (shN s r))) := l07ReadShort_c p s r.1 r.2 hs h e
theorem count_p (p : Nat) (s : ByteArray) (r : Nat × Bool) (most : Int) (hm : 0 ≤ most) (hs : s.size ≤ maxLen - 16) (h : AH) (e : h.ob p = rdP p s r) : CD Try.prog 88 [.pointer (some ⟨p, 0, none⟩), .int .i64 most] h (.int .i64 (ctV s most r)) (h.set p (rdP p s (ctN s most r))) := count_c p s r.1 r.2 most hm hs h e
theorem done_p (p : Nat) (s : ByteArray) (r : Nat × Bool) (h : AH) (e : h.ob p = rdP p s r) : CD Try.prog 90 [.pointer (some ⟨p, 0, none⟩)] h (.bool (!r.2 && decide ((r.1 : Int) = s.size))) h := done_c p s r.1 r.2 h e
theorem l07Var_p (p : Nat) (s : ByteArray) (r : Nat × Bool) (hs : s.size ≤ maxLen - 16) (h : AH) (e : h.ob p = rdP p s r) : CD Try.prog 65 [.pointer (some ⟨p, 0, none⟩)] h (.int .i64 (oN (if r.2 then none else rv s r.1))) (h.set p (rdP p s (nxN (if r.2 then none else rv s r.1) r.1, (if r.2 then none else rv s r.1).isNone))) := l07Var_c p s r.1 r.2 hs h e
/-- So many variables read one behind the other. -/
def itV (s : ByteArray) (r : Nat × Bool) : Nat → (Nat × Bool) × List Var
  | 0 => (r, [])
  | i + 1 => (shN s (shN s (itV s r i).1), (itV s r i).2 ++ [⟨shT s (itV s r i).1, shT s (shN s (itV s r i).1)⟩])
theorem itV_len (s : ByteArray) (r : Nat × Bool) : ∀ i, (itV s r i).2.length = i
  | 0 => rfl
  | i + 1 => by simp [itV, itV_len s r i]
def itC (s : ByteArray) (r : Nat × Bool) : Nat → (Nat × Bool) × List Cell
  | 0 => (r, [])
  | i + 1 => (shN s (shN s (shN s (itC s r i).1)), (itC s r i).2 ++ [⟨shT s (itC s r i).1, shT s (shN s (itC s r i).1), shT s (shN s (shN s (itC s r i).1))⟩])
theorem itC_len (s : ByteArray) (r : Nat × Bool) : ∀ i, (itC s r i).2.length = i
  | 0 => rfl
  | i + 1 => by simp [itC, itC_len s r i]
theorem ctV_nat (s : ByteArray) (most : Nat) (r : Nat × Bool) : ∃ N : Nat, ctV s most r = (N : Nat) ∧ N ≤ most := by
  unfold ctV
  generalize (if r.2 then none else rv s r.1) = q
  have h0 : ∃ M : Nat, oN q = (M : Nat) := by cases q with
    | none => exact ⟨0, rfl⟩
    | some p => exact ⟨p.1, rfl⟩
  obtain ⟨M, hM⟩ := h0
  rw [hM]
  by_cases e : (most : Int) < (M : Int)
  · exact ⟨0, by rw [if_pos e]; rfl, Nat.zero_le _⟩
  · exact ⟨M, by rw [if_neg e], by omega⟩
def ctM (s : ByteArray) (most : Int) (r : Nat × Bool) : Nat := (ctV s most r).toNat
/-- What impl.ReadStore reads, whether or not it is right. -/
def iL (s : ByteArray) : (Nat × Bool) × List Var := itV s (ctN s 60 (0, false)) (ctM s 60 (0, false))
def iC (s : ByteArray) : (Nat × Bool) × List Cell := itC s (ctN s 2000 (iL s).1) (ctM s 2000 (iL s).1)
def iStore (s : ByteArray) : Store := ⟨(iL s).2, (iC s).2, shT s (iC s).1⟩
def iOk (s : ByteArray) : Bool := !(shN s (iC s).1).2 && decide (((shN s (iC s).1).1 : Int) = s.size) && storeOk (iStore s)
def store0 : Store := ⟨[], [], ⟨#[]⟩⟩
def iS (s : ByteArray) : Store := if iOk s = true then iStore s else store0
theorem shT_size (s : ByteArray) (r : Nat × Bool) : (shT s r).size ≤ s.size := by
  unfold shT sT
  split
  · simp only [ByteArray.size_extract]; omega
  · exact Nat.zero_le _
theorem itV_size (s : ByteArray) (r : Nat × Bool) : ∀ i, ∀ x ∈ (itV s r i).2, x.name.size ≤ s.size ∧ x.val.size ≤ s.size
  | 0, x, hx => by simp [itV] at hx
  | i + 1, x, hx => by
    simp only [itV, List.mem_append, List.mem_singleton] at hx
    rcases hx with hx | rfl
    · exact itV_size s r i x hx
    · exact ⟨shT_size _ _, shT_size _ _⟩
theorem itC_size (s : ByteArray) (r : Nat × Bool) : ∀ i, ∀ x ∈ (itC s r i).2, x.name.size ≤ s.size ∧ x.key.size ≤ s.size ∧ x.val.size ≤ s.size
  | 0, x, hx => by simp [itC] at hx
  | i + 1, x, hx => by
    simp only [itC, List.mem_append, List.mem_singleton] at hx
    rcases hx with hx | rfl
    · exact itC_size s r i x hx
    · exact ⟨shT_size _ _, shT_size _ _, shT_size _ _⟩
/-- A store whose slices are the call's own, in objects of their own. -/
def OwnS (h0 h : AH) (vA vB : Value) (st : Store) : Prop := ∃ m, h0.n ≤ m ∧ Gr h0.n h vA 2 (st.vars.map Var.enc).flatten ∧ (∀ i, atBlock vA i → i < m) ∧ Gr m h vB 3 (st.cells.map Cell.enc).flatten
theorem OwnS.zero (h0 h : AH) : OwnS h0 h (.slice none 0 0) (.slice none 0 0) store0 := ⟨h0.n, Nat.le_refl _, Gr.nil _ _ _ _, fun i e => e.elim, Gr.nil _ _ _ _⟩
theorem ReadStore_i (s : ByteArray) (hs : s.size ≤ maxLen - 16) (h : AH) : CC Try.prog 45 [.string s] h (fun v h' => ∃ vA vB, v = .tuple #[.agg #[vA, vB, .string (iS s).out], .bool (iOk s)] ∧ OwnS h h' vA vB (iS s) ∧ Pre h h') := by
  refine CC.withBig (fun big => ?_)
  obtain ⟨N, hN, hN2⟩ := ctV_nat s 60 (0, false)
  have hc := count_p (h.n + 1) s (0, false) 60 (by omega) hs
  rw [show ((60 : Nat) : Int) = 60 from rfl] at hN
  rw [hN] at hc
  have hc' : ∀ h1 : AH, h1.ob (h.n + 1) = .cells [.string s, .int .i64 0, .bool false] .solo (h.n + 1) → _ := fun h1 e => hc h1 e
  refine CC.ofN Try.func45 Try.ntmps45 Try.results45 rfl (by decide) (by kernel_rfl) ?_
  simp (maxSteps := 1000000) -implicitDefEqProofs only [push_cast, seval]
  with_reducible refine CD.to (hc' _ (by (try simp (maxSteps := 1000000) -implicitDefEqProofs only [push_cast, seval, rdOb]); try rfl)) ?_
  simp (maxSteps := 1000000) -implicitDefEqProofs only [push_cast, seval]
  refine WC.loopA (by kernel_rfl) [17] [7, 18, 19, 20, 21, 22, 23, 24, 25, 26, 27, 28, 29, 30, 31, 32] (fun a : Nat × Value => [.int .i64 (a.1 : Nat)]) (fun a h' => (a.1 ≤ N ∧ h.n + 3 ≤ h'.n ∧ h'.ob h.n = .cells [.slice none 0 0, .slice none 0 0, .string ⟨#[]⟩] .solo h.n) ∧ h'.ob (h.n + 1) = rdP (h.n + 1) s (itV s (ctN s 60 (0, false)) a.1).1 ∧ h'.ob (h.n + 2) = .cells [a.2, .slice none 0 0, .string ⟨#[]⟩] .solo (h.n + 2) ∧ Gr (h.n + 3) h' a.2 2 ((itV s (ctN s 60 (0, false)) a.1).2.map Var.enc).flatten ∧ Pre h h') (fun a => N - a.1) (0, .slice none 0 0) (by kernel_rfl) ⟨⟨Nat.zero_le _, Nat.le_refl _, ?_⟩, ?_, ?_, Gr.nil _ _ _ _, ?_⟩ ?_
  · simp only [set_ne _ (show h.n ≠ h.n + 1 by omega), set_ne _ (show h.n ≠ h.n + 2 by omega)]
    exact (alloc_lt _ (by show h.n < h.n + 2; omega)).trans ((alloc_lt _ (by show h.n < h.n + 1; omega)).trans (alloc_same _))
  · simp (maxSteps := 1000000) -implicitDefEqProofs only [push_cast, seval]
    rfl
  · simp (maxSteps := 1000000) -implicitDefEqProofs only [push_cast, seval]
  · refine Pre.set (Pre.set ((((Pre.refl _).alloc _).alloc _).alloc _) ?_ _) ?_ _ <;> omega
  intro a g h1 hJ
  have hi := hJ.1.1
  have hn := hJ.1.2.1
  have o0 := hJ.1.2.2
  have o1 := hJ.2.1
  have o2 := hJ.2.2.1
  have hg := hJ.2.2.2.1
  have hp := hJ.2.2.2.2
  clear hJ
  generalize hL : itV s (ctN s 60 (0, false)) a.1 = L at *
  simp (maxSteps := 1000000) -implicitDefEqProofs only [push_cast, seval]
  with_reducible refine bcase_d (fun hb => ?_) (fun hb => ?_)
  · have hi' : a.1 < N := by omega
    simp (maxSteps := 1000000) -implicitDefEqProofs only [push_cast, seval]
    with_reducible refine CD.to (short_p (h.n + 1) s L.1 hs _ (by rw [set_ne _ (by omega), alloc_lt _ (by omega)]; exact o1)) ?_
    have k1 : h.n + 1 < h1.n := by omega
    have k2 : h.n + 2 < h1.n := by omega
    simp (maxSteps := 1000000) -implicitDefEqProofs only [push_cast, seval, k1, k2]
    with_reducible refine CD.to (short_p (h.n + 1) s (shN s L.1) hs _ (by simp only [set_ne _ (show h.n + 1 ≠ h1.n by omega), set_same])) ?_
    simp (maxSteps := 1000000) -implicitDefEqProofs only [push_cast, seval, k1, k2, rd_of o2, rd1_of o2, o2, zl2]
    have k0 : h.n < h1.n := by omega
    have hl : (itV s (ctN s 60 (0, false)) a.1).2.length = a.1 := itV_len _ _ _
    rw [hL] at hl
    have hf : ((L.2.map Var.enc).flatten).length = L.2.length * 2 := flat_len (k := 2) _ (fun _ => rfl)
    refine Gr.app1 (h0 := h) si48 (by decide) (by decide) (notInt_sl und48) ((hg.mono (by omega)).keep (Nat.le_succ h1.n) (fun i hi => six_ob _ _ _ _ _ _ (by have := hg.range hi; omega) (hg.range hi).2)) (six_pre _ _ _ _ _ _ hp (by omega)) rfl ?_ (by decide) (fun h' gr ow p' hn' he => ?_)
    · rw [hf]; omega
    have q0 : h'.ob h.n = _ := ((he _ (show h.n < h1.n + 1 by omega) (hg.not_low (by omega))).trans (six_ob _ _ _ _ _ _ (by omega) (by omega))).trans o0
    have q1 : h'.ob (h.n + 1) = rdP (h.n + 1) s (shN s (shN s L.1)) := (he _ (show h.n + 1 < h1.n + 1 by omega) (hg.not_low (by omega))).trans (six_at _ _ _ _ _ _ k1)
    have q2 : h'.ob (h.n + 2) = _ := ((he _ (show h.n + 2 < h1.n + 1 by omega) (hg.not_low (by omega))).trans (six_ob _ _ _ _ _ _ (by omega) k2)).trans o2
    have k3 : h.n + 2 < h'.n := by rw [hn']; show h.n + 2 < h1.n + 1 + 2; omega
    simp (maxSteps := 1000000) -implicitDefEqProofs only [push_cast, seval, k3, rd_of q2, rd1_of q2, q2]
    rw [wrapSucc (by omega)]
    refine ⟨(a.1 + 1, .slice (some ⟨h1.n + 1 + 1, 0, none⟩) (((L.2.map Var.enc).flatten).length / 2 + 1) 2), by kernel_rfl, ⟨⟨by show a.1 + 1 ≤ N; omega, by show h.n + 3 ≤ h'.n; omega, ?_⟩, ?_, ?_, ?_, ?_⟩, by show N - (a.1 + 1) < N - a.1; omega⟩
    · exact q0
    · show h'.ob (h.n + 1) = rdP (h.n + 1) s (itV s (ctN s 60 (0, false)) (a.1 + 1)).1
      rw [q1, itV, hL]
    · rfl
    · show Gr (h.n + 3) (h'.set (h.n + 2) _) _ 2 ((itV s (ctN s 60 (0, false)) (a.1 + 1)).2.map Var.enc).flatten
      rw [itV, hL, flat_snoc]
      exact .inr ⟨_, _, _, rfl, by show h.n + 3 ≤ h1.n + 1 + 1; omega, ow.same (set_ne _ (by show h1.n + 1 + 1 ≠ h.n + 2; omega)) (Nat.le_refl _)⟩
    · exact p'.set (by omega) _
  · have hn1 : a.1 = N := by omega
    simp (maxSteps := 1000000) -implicitDefEqProofs only [push_cast, seval]
    rw [hn1] at hL
    obtain ⟨M, hM, hM2⟩ := ctV_nat s 2000 L.1
    have hd := count_p (h.n + 1) s L.1 2000 (by omega) hs
    rw [show ((2000 : Nat) : Int) = 2000 from rfl] at hM
    rw [hM] at hd
    with_reducible refine CD.to (hd _ o1) ?_
    simp (maxSteps := 1000000) -implicitDefEqProofs only [push_cast, seval]
    refine WC.loopA (by kernel_rfl) [36] [9, 37, 38, 39, 40, 41, 42, 43, 44, 45, 46, 47, 48, 49, 50, 51, 52, 53, 54] (fun c : Nat × Value => [.int .i64 (c.1 : Nat)]) (fun c h' => (c.1 ≤ M ∧ h1.n ≤ h'.n) ∧ h'.ob (h.n + 1) = rdP (h.n + 1) s (itC s (ctN s 2000 L.1) c.1).1 ∧ h'.ob (h.n + 2) = .cells [a.2, c.2, .string ⟨#[]⟩] .solo (h.n + 2) ∧ Gr h1.n h' c.2 3 ((itC s (ctN s 2000 L.1) c.1).2.map Cell.enc).flatten ∧ (∀ i, i < h1.n → i ≠ h.n + 1 → i ≠ h.n + 2 → h'.ob i = h1.ob i)) (fun c => M - c.1) (0, .slice none 0 0) (by kernel_rfl) ⟨⟨Nat.zero_le _, Nat.le_refl _⟩, ?_, ?_, Gr.nil _ _ _ _, ?_⟩ ?_
    · exact set_same _ _
    · exact (set_ne _ (by omega)).trans o2
    · intro i _ h1' _
      exact set_ne _ h1'
    intro c g2 h2 hJ
    have ci := hJ.1.1
    have cn := hJ.1.2
    have u1 := hJ.2.1
    have u2 := hJ.2.2.1
    have cg := hJ.2.2.2.1
    have ck := hJ.2.2.2.2
    clear hJ
    generalize hC : itC s (ctN s 2000 L.1) c.1 = C at *
    have cp : Pre h h2 := ⟨by omega, fun i hi => (ck i (by omega) (by omega) (by omega)).trans (hp.ob i hi)⟩
    simp (maxSteps := 1000000) -implicitDefEqProofs only [push_cast, seval]
    with_reducible refine bcase_d (fun hb => ?_) (fun hb => ?_)
    · have ci' : c.1 < M := by omega
      have k1 : h.n + 1 < h2.n := by omega
      have k2 : h.n + 2 < h2.n := by omega
      simp (maxSteps := 1000000) -implicitDefEqProofs only [push_cast, seval]
      with_reducible refine CD.to (short_p (h.n + 1) s C.1 hs _ (by rw [set_ne _ (by omega), alloc_lt _ (by omega)]; exact u1)) ?_
      simp (maxSteps := 1000000) -implicitDefEqProofs only [push_cast, seval, k1, k2]
      with_reducible refine CD.to (short_p (h.n + 1) s (shN s C.1) hs _ (by simp only [set_ne _ (show h.n + 1 ≠ h2.n by omega), set_same])) ?_
      simp (maxSteps := 1000000) -implicitDefEqProofs only [push_cast, seval, k1, k2]
      with_reducible refine CD.to (short_p (h.n + 1) s (shN s (shN s C.1)) hs _ (by simp only [set_ne _ (show h.n + 1 ≠ h2.n by omega), set_same])) ?_
      simp (maxSteps := 1000000) -implicitDefEqProofs only [push_cast, seval, k1, k2, rd_of u2, rd1_of u2, u2, zl3]
      have hl : (itC s (ctN s 2000 L.1) c.1).2.length = c.1 := itC_len _ _ _
      rw [hC] at hl
      have hf : ((C.2.map Cell.enc).flatten).length = C.2.length * 3 := flat_len (k := 3) _ (fun _ => rfl)
      refine Gr.app1 (h0 := h) si49 (by decide) (by decide) (notInt_sl und49) ((cg.mono (by omega)).keep (Nat.le_succ h2.n) (fun i hi => eight_ob _ _ _ _ _ _ _ _ (by have := cg.range hi; omega) (cg.range hi).2)) (eight_pre _ _ _ _ _ _ _ _ cp (by omega)) rfl ?_ (by decide) (fun h' gr ow p' hn' he => ?_)
      · rw [hf]; omega
      have q1 : h'.ob (h.n + 1) = rdP (h.n + 1) s (shN s (shN s (shN s C.1))) := (he _ (show h.n + 1 < h2.n + 1 by omega) (cg.not_low (by omega))).trans (eight_at _ _ _ _ _ _ _ _ k1)
      have q2 : h'.ob (h.n + 2) = _ := ((he _ (show h.n + 2 < h2.n + 1 by omega) (cg.not_low (by omega))).trans (eight_ob _ _ _ _ _ _ _ _ (by omega) k2)).trans u2
      have qk : ∀ i, i < h1.n → i ≠ h.n + 1 → i ≠ h.n + 2 → h'.ob i = h1.ob i := fun i a1 a2 a3 => ((he i (show i < h2.n + 1 by omega) (cg.not_low a1)).trans (eight_ob _ _ _ _ _ _ _ _ a2 (by omega))).trans (ck i a1 a2 a3)
      have k3 : h.n + 2 < h'.n := by rw [hn']; show h.n + 2 < h2.n + 1 + 2; omega
      have k4 : h'.n = h2.n + 1 + 2 := hn'
      simp (maxSteps := 1000000) -implicitDefEqProofs only [push_cast, seval, k3, rd_of q2, rd1_of q2, q2]
      rw [wrapSucc (by omega)]
      refine ⟨(c.1 + 1, .slice (some ⟨h2.n + 2, 0, none⟩) (((C.2.map Cell.enc).flatten).length / 3 + 1) 3), by kernel_rfl, ⟨⟨by show c.1 + 1 ≤ M; omega, by show h1.n ≤ h'.n; omega⟩, ?_, ?_, ?_, ?_⟩, by show M - (c.1 + 1) < M - c.1; omega⟩
      · show h'.ob (h.n + 1) = rdP (h.n + 1) s (itC s (ctN s 2000 L.1) (c.1 + 1)).1
        rw [q1, itC, hC]
      · rfl
      · show Gr h1.n (h'.set (h.n + 2) _) _ 3 ((itC s (ctN s 2000 L.1) (c.1 + 1)).2.map Cell.enc).flatten
        rw [itC, hC, flat_snoc]
        exact .inr ⟨_, _, _, rfl, by show h1.n ≤ h2.n + 2; omega, ow.same (set_ne _ (by show h2.n + 1 + 1 ≠ h.n + 2; omega)) (Nat.le_refl _)⟩
      · intro i a1 a2 a3
        exact (set_ne _ a3).trans (qk i a1 a2 a3)
    · have cn1 : c.1 = M := by omega
      rw [cn1] at hC
      simp (maxSteps := 1000000) -implicitDefEqProofs only [push_cast, seval]
      have k0 : h.n < h2.n := by omega
      have k1 : h.n + 1 < h2.n := by omega
      have k2 : h.n + 2 < h2.n := by omega
      with_reducible refine CD.to (short_p (h.n + 1) s C.1 hs _ u1) ?_
      simp (maxSteps := 1000000) -implicitDefEqProofs only [push_cast, seval, k1, k2, rd_of u2, rd1_of u2, u2]
      have e1 : ((h2.set (h.n + 1) (rdP (h.n + 1) s (shN s C.1))).set (h.n + 2) (AOb.cells [a.2, c.2, .string (shT s C.1)] .solo (h.n + 2))).ob (h.n + 1) = rdP (h.n + 1) s (shN s C.1) := (set_ne _ (by omega)).trans (set_same _ _)
      with_reducible refine CD.to (done_p (h.n + 1) s (shN s C.1) _ e1) ?_
      simp (maxSteps := 1000000) -implicitDefEqProofs only [push_cast, seval, k0, k1, k2]
      have eL : iL s = L := by rw [← hL, iL, ctM, hN]; rfl
      have eC : iC s = C := by rw [← hC, iC, eL, ctM, hM]; rfl
      have ga := hg.read (by decide) (fun _ => rfl)
      have gc := cg.read (by decide) (fun _ => rfl)
      with_reducible refine Exists.elim ga (fun A ga => ?_)
      with_reducible refine Exists.elim ga (fun cA ga => ?_)
      with_reducible refine Exists.elim gc (fun B gc => ?_)
      with_reducible refine Exists.elim gc (fun cB gc => ?_)
      have mx := maxLen_eq
      have hz : Sz ⟨L.2, C.2, shT s C.1⟩ := ⟨fun x hx => by have := itV_size s (ctN s 60 (0, false)) N x (by rw [hL]; exact hx); omega, fun x hx => by have := itC_size s (ctN s 2000 L.1) M x (by rw [hC]; exact hx); omega, by have := shT_size s C.1; show (shT s C.1).size ≤ maxLen; omega, by show L.2.length < _; rw [← hL, itV_len]; omega, by show C.2.length < _; rw [← hC, itC_len]; omega⟩
      have hO := StoreOk_i ⟨L.2, C.2, shT s C.1⟩ A B cA cB ((h2.set (h.n + 1) (rdP (h.n + 1) s (shN s C.1))).set (h.n + 2) (AOb.cells [a.2, c.2, .string (shT s C.1)] .solo (h.n + 2))) ⟨ga.2 _ (fun i a1 a2 => (set_ne _ (by omega)).trans ((set_ne _ (by omega)).trans (ck i a2 (by omega) (by omega)))), gc.2 _ (fun i a1 a2 => (set_ne _ (by omega)).trans (set_ne _ (by omega)))⟩ hz
      simp only [← ga.1, ← gc.1] at hO
      have w0 : h2.ob h.n = _ := (ck h.n (by omega) (by omega) (by omega)).trans o0
      cases hd1 : (!(shN s C.1).2 && decide (((shN s C.1).1 : Int) = s.size)) with
      | false =>
        have eO : iOk s = false := by rw [iOk, eC, hd1]; rfl
        simp (maxSteps := 1000000) -implicitDefEqProofs only [push_cast, seval, k0, k1, k2, w0, rd_of w0]
        repeat' (first | with_reducible (first | exact Keep.refl _ _ | assumption | exact byte_lt _ _ | apply Keep.alloc | (refine Keep.set ?_ ?_; rotate_left; · omega) | apply Pre.alloc | apply Pre.set | exact Pre.refl _ | exact le_alloc _ | (refine Pre.keep ?_; assumption) | (refine Pre.n ?_; assumption)) | ((with_reducible (first | refine bcase_d (fun hb => ?_) (fun hb => ?_) | refine bcase_mk (fun hb => ?_) (fun hb => ?_))) <;> try simp (maxSteps := 1000000) -implicitDefEqProofs only [push_cast, seval, k0, k1, k2, w0, rd_of w0]) | with_reducible refine And.intro ?_ ?_ | omega | (simp only [alloc_n, set_n, kill_n]; omega) | (exfalso; omega))
        have eK := eO
        have eS : iS s = store0 := by rw [iS, eK]; rfl
        rw [eS, eK]
        exact ⟨_, _, rfl, OwnS.zero _ _, ((cp.set (by omega) _).set (by omega) _).set (Nat.le_refl _) _⟩
      | true =>
        have eO : iOk s = storeOk ⟨L.2, C.2, shT s C.1⟩ := by rw [iOk, iStore, eC, eL, hd1]; rfl
        simp (maxSteps := 1000000) -implicitDefEqProofs only [push_cast, seval, k0, k1, k2, w0, rd_of w0]
        repeat' (first | with_reducible (first | exact Keep.refl _ _ | assumption | exact byte_lt _ _ | apply Keep.alloc | (refine Keep.set ?_ ?_; rotate_left; · omega) | apply Pre.alloc | apply Pre.set | exact Pre.refl _ | exact le_alloc _ | (refine Pre.keep ?_; assumption) | (refine Pre.n ?_; assumption)) | ((with_reducible (first | refine CD.to (hO) ?_ | refine CQ.pure (fun _ => hO) ?_ | refine bcase_d (fun hb => ?_) (fun hb => ?_) | refine bcase_mk (fun hb => ?_) (fun hb => ?_))) <;> try simp (maxSteps := 1000000) -implicitDefEqProofs only [push_cast, seval, k0, k1, k2, w0, rd_of w0]) | with_reducible refine And.intro ?_ ?_ | omega | (simp only [alloc_n, set_n, kill_n]; omega) | (exfalso; omega))
        · rw [ga.1, gc.1]
          simp [Sim.one]
        · have eK : iOk s = true := by rw [eO, hb]
          have eS : iS s = ⟨L.2, C.2, shT s C.1⟩ := by rw [iS, eK, if_pos rfl, iStore, eC, eL]
          rw [eS, eK]
          refine ⟨a.2, c.2, rfl, ⟨h1.n, by omega, ?_, fun i e => (hg.range e).2, ?_⟩, ?_⟩
          · exact (hg.mono (by omega)).keep cn (fun i e => by have := hg.range e; rw [set_ne _ (by omega), set_ne _ (by omega), set_ne _ (by omega)]; exact ck i (by omega) (by omega) (by omega))
          · exact cg.keep (Nat.le_refl _) (fun i e => by have := cg.range e; rw [set_ne _ (by omega), set_ne _ (by omega), set_ne _ (by omega)])
          · exact ((cp.set (by omega) _).set (by omega) _).set (Nat.le_refl _) _
        · have eK : iOk s = false := by rw [eO]; simpa using hb
          have eS : iS s = store0 := by rw [iS, eK]; rfl
          rw [eS, eK]
          exact ⟨_, _, rfl, OwnS.zero _ _, ((cp.set (by omega) _).set (by omega) _).set (Nat.le_refl _) _⟩
end Go.Proofs.Ytfbcedjheempfaa
