/- A part of the proof of the row: contracts of functions that it reaches. Conditions: those that each theorem names. -/
import Derived.Test.YtfbcedjheempfaaL8
import Derived.Test.YtfbcedjheempfaaP3
namespace Go.Proofs.Ytfbcedjheempfaa
open Go Go.Sim Go.Proofs
set_option linter.unusedSimpArgs false
set_option linter.unusedVariables false
set_option maxRecDepth 100000
set_option maxHeartbeats 1000000
theorem isWorker_c (a : Int) (h : AH) : CD Try.prog 52 [.int .i64 a] h (.bool (inB a 1 3)) h := by
  refine CD.quiet ?_ (low_bool _ _)
  refine CC.ofN Try.func52 Try.ntmps52 Try.results52 rfl (by decide) (by kernel_rfl) ?_
  simp -implicitDefEqProofs only [push_cast, seval]
  repeat' (first | with_reducible (first | exact Keep.refl _ _ | assumption | exact byte_lt _ _ | apply Keep.alloc | (refine Keep.set ?_ ?_; rotate_left; · omega) | apply Pre.alloc | apply Pre.set | exact Pre.refl _ | exact le_alloc _ | (refine Pre.keep ?_; assumption) | (refine Pre.n ?_; assumption)) | ((with_reducible (first | refine CD.to (within_c _ _ _ _) ?_ | refine CQ.pure (fun _ => within_c _ _ _ _) ?_ | refine bcase_d (fun hb => ?_) (fun hb => ?_) | refine bcase_mk (fun hb => ?_) (fun hb => ?_))) <;> try simp -implicitDefEqProofs only [push_cast, seval]) | with_reducible refine And.intro ?_ ?_ | omega | (simp only [alloc_n, set_n, kill_n]; omega) | (exfalso; omega))
theorem MessageOk_i (m : Msg) (h : AH) : CD Try.prog 15 [m.v] h (.bool (msgOk m)) h := by
  refine CD.quiet ?_ (low_bool _ _)
  simp only [Msg.v]
  refine CC.ofN Try.func15 Try.ntmps15 Try.results15 rfl (by decide) (by kernel_rfl) ?_
  simp -implicitDefEqProofs only [push_cast, seval]
  repeat' (first | with_reducible (first | exact Keep.refl _ _ | assumption | exact byte_lt _ _ | apply Keep.alloc | (refine Keep.set ?_ ?_; rotate_left; · omega) | apply Pre.alloc | apply Pre.set | exact Pre.refl _ | exact le_alloc _ | (refine Pre.keep ?_; assumption) | (refine Pre.n ?_; assumption)) | ((with_reducible (first | refine CD.to (within_c _ _ _ _) ?_ | refine CQ.pure (fun _ => within_c _ _ _ _) ?_ | refine CD.to (isWorker_c _ _) ?_ | refine CQ.pure (fun _ => isWorker_c _ _) ?_ | refine bcase_d (fun hb => ?_) (fun hb => ?_) | refine bcase_mk (fun hb => ?_) (fun hb => ?_))) <;> try simp -implicitDefEqProofs only [push_cast, seval]) | with_reducible refine And.intro ?_ ?_ | omega | (simp only [alloc_n, set_n, kill_n]; omega) | (exfalso; omega))
  all_goals (refine congrArg Value.bool ?_; simp only [msgOk]; grind)
theorem MessageOk_s (m : Msg) (h : AH) : CD Try.prog 13 [m.v] h (.bool (msgOk m)) h := by
  refine CD.quiet ?_ (low_bool _ _)
  simp only [Msg.v]
  refine CC.ofN Try.func13 Try.ntmps13 Try.results13 rfl (by decide) (by kernel_rfl) ?_
  simp -implicitDefEqProofs only [push_cast, seval]
  repeat' (first | with_reducible (first | exact Keep.refl _ _ | assumption | exact byte_lt _ _ | apply Keep.alloc | (refine Keep.set ?_ ?_; rotate_left; · omega) | apply Pre.alloc | apply Pre.set | exact Pre.refl _ | exact le_alloc _ | (refine Pre.keep ?_; assumption) | (refine Pre.n ?_; assumption)) | ((with_reducible (first | refine CD.to (l01In_c _ _ _ _) ?_ | refine CQ.pure (fun _ => l01In_c _ _ _ _) ?_ | refine bcase_d (fun hb => ?_) (fun hb => ?_) | refine bcase_mk (fun hb => ?_) (fun hb => ?_))) <;> try simp -implicitDefEqProofs only [push_cast, seval]) | with_reducible refine And.intro ?_ ?_ | omega | (simp only [alloc_n, set_n, kill_n]; omega) | (exfalso; omega))
  all_goals (refine congrArg Value.bool ?_; simp only [msgOk]; grind)
theorem MessageText_i (m : Msg) (h : AH) : CD Try.prog 21 [m.v] h (.tuple #[.string (msgText m), .bool (msgOk m)]) h := by
  refine CD.quiet ?_ (low_tuple (by simp [low_string, low_bool]))
  have hm := maxLen_eq
  cases hok : msgOk m with
  | false =>
    have e0 : msgText m = ⟨#[]⟩ := by simp [msgText, hok]
    have hc : ∀ h', CD Try.prog 13 [.agg #[.int .i64 m.kind, .int .i64 m.worker, .int .i64 m.task, .int .i64 m.try_, .string m.body]] h' (.bool (msgOk m)) h' := fun h' => MessageOk_s m h'
    have hc' : ∀ h', CD Try.prog 15 [.agg #[.int .i64 m.kind, .int .i64 m.worker, .int .i64 m.task, .int .i64 m.try_, .string m.body]] h' (.bool (msgOk m)) h' := fun h' => MessageOk_i m h'
    simp only [Msg.v, e0]
    refine CC.ofN Try.func21 Try.ntmps21 Try.results21 rfl (by decide) (by kernel_rfl) ?_
    simp -implicitDefEqProofs only [push_cast, seval]
    repeat' (first | with_reducible (first | exact Keep.refl _ _ | assumption | exact byte_lt _ _ | apply Keep.alloc | (refine Keep.set ?_ ?_; rotate_left; · omega) | apply Pre.alloc | apply Pre.set | exact Pre.refl _ | exact le_alloc _ | (refine Pre.keep ?_; assumption) | (refine Pre.n ?_; assumption)) | ((with_reducible (first | refine CD.to (hc _) ?_ | refine CQ.pure (fun _ => hc _) ?_ | refine CD.to (hc' _) ?_ | refine CQ.pure (fun _ => hc' _) ?_ | refine bcase_d (fun hb => ?_) (fun hb => ?_) | refine bcase_mk (fun hb => ?_) (fun hb => ?_))) <;> try simp -implicitDefEqProofs only [push_cast, seval, hok]) | with_reducible refine And.intro ?_ ?_ | omega | (simp only [alloc_n, set_n, kill_n]; omega) | (exfalso; omega))
  | true =>
    obtain ⟨hk, hw, ht, hy, hb⟩ := msgOk_ m hok
    have z1 := vt_size (n := m.task) (by omega)
    have z2 := vt_size (n := m.try_) (by omega)
    have z0 : (⟨#[UInt8.ofNat (IntKind.u8.wrap m.kind).toNat, UInt8.ofNat (IntKind.u8.wrap m.worker).toNat]⟩ : ByteArray).size = 2 := rfl
    have zz := msgBytes_size m hok
    have e0 : msgText m = sealT (msgBytes m) := by simp [msgText, hok]
    have hc : ∀ h', CD Try.prog 13 [.agg #[.int .i64 m.kind, .int .i64 m.worker, .int .i64 m.task, .int .i64 m.try_, .string m.body]] h' (.bool (msgOk m)) h' := fun h' => MessageOk_s m h'
    have hc' : ∀ h', CD Try.prog 15 [.agg #[.int .i64 m.kind, .int .i64 m.worker, .int .i64 m.task, .int .i64 m.try_, .string m.body]] h' (.bool (msgOk m)) h' := fun h' => MessageOk_i m h'
    simp only [Msg.v, e0]
    refine CC.ofN Try.func21 Try.ntmps21 Try.results21 rfl (by decide) (by kernel_rfl) ?_
    simp -implicitDefEqProofs only [push_cast, seval]
    repeat' (first | with_reducible (first | exact Keep.refl _ _ | assumption | exact byte_lt _ _ | apply Keep.alloc | (refine Keep.set ?_ ?_; rotate_left; · omega) | apply Pre.alloc | apply Pre.set | exact Pre.refl _ | exact le_alloc _ | (refine Pre.keep ?_; assumption) | (refine Pre.n ?_; assumption)) | ((with_reducible (first | refine CD.to (hc _) ?_ | refine CQ.pure (fun _ => hc _) ?_ | refine CD.to (hc' _) ?_ | refine CQ.pure (fun _ => hc' _) ?_ | refine bcase_d (fun hb => ?_) (fun hb => ?_) | refine bcase_mk (fun hb => ?_) (fun hb => ?_))) <;> try simp -implicitDefEqProofs only [push_cast, seval, hok]) | with_reducible refine And.intro ?_ ?_ | omega | (simp only [alloc_n, set_n, kill_n]; omega) | (exfalso; omega))
    refine WC.draw' (by kernel_rfl) (by kernel_rfl) (.q 0 (.q 1 (.q 2 (.q 3 (.q 4 (.q 5 (.q 8 (.q 9 (.q 12 (.q 13 (.q 16 (.q 17 (.c 10 (.c 14 (.a 6 false (.q 7 (.q 11 (.q 15 (.q 18 (.c 19 (.q 20 (.q 21 (.q 22 (.q 23 (.done))))))))))))))))))))))))) (by kernel_rfl) ?_
    simp -implicitDefEqProofs only [push_cast, seval]
    repeat' (first | with_reducible (first | exact Keep.refl _ _ | assumption | exact byte_lt _ _ | apply Keep.alloc | (refine Keep.set ?_ ?_; rotate_left; · omega) | apply Pre.alloc | apply Pre.set | exact Pre.refl _ | exact le_alloc _ | (refine Pre.keep ?_; assumption) | (refine Pre.n ?_; assumption)) | ((with_reducible (first | refine CD.to (numberText_c _ ?_ _) ?_ | refine CQ.pure (fun _ => numberText_c _ ?_ _) ?_ | refine CD.to (Sealed_i _ ?_ _) ?_ | refine CQ.pure (fun _ => Sealed_i _ ?_ _) ?_ | refine bcase_d (fun hb => ?_) (fun hb => ?_) | refine bcase_mk (fun hb => ?_) (fun hb => ?_))) <;> try simp -implicitDefEqProofs only [push_cast, seval, z0, ByteArray.size_append]) | with_reducible refine And.intro ?_ ?_ | omega | (simp only [alloc_n, set_n, kill_n]; omega) | (exfalso; omega))
    rw [if_pos (by omega), decide_eq_true (by omega)]; rfl
theorem MessageText_s (m : Msg) (h : AH) : CD Try.prog 20 [m.v] h (.tuple #[.string (msgText m), .bool (msgOk m)]) h := by
  refine CD.quiet ?_ (low_tuple (by simp [low_string, low_bool]))
  have hm := maxLen_eq
  cases hok : msgOk m with
  | false =>
    have e0 : msgText m = ⟨#[]⟩ := by simp [msgText, hok]
    have hc : ∀ h', CD Try.prog 13 [.agg #[.int .i64 m.kind, .int .i64 m.worker, .int .i64 m.task, .int .i64 m.try_, .string m.body]] h' (.bool (msgOk m)) h' := fun h' => MessageOk_s m h'
    have hc' : ∀ h', CD Try.prog 15 [.agg #[.int .i64 m.kind, .int .i64 m.worker, .int .i64 m.task, .int .i64 m.try_, .string m.body]] h' (.bool (msgOk m)) h' := fun h' => MessageOk_i m h'
    simp only [Msg.v, e0]
    refine CC.ofN Try.func20 Try.ntmps20 Try.results20 rfl (by decide) (by kernel_rfl) ?_
    simp -implicitDefEqProofs only [push_cast, seval]
    repeat' (first | with_reducible (first | exact Keep.refl _ _ | assumption | exact byte_lt _ _ | apply Keep.alloc | (refine Keep.set ?_ ?_; rotate_left; · omega) | apply Pre.alloc | apply Pre.set | exact Pre.refl _ | exact le_alloc _ | (refine Pre.keep ?_; assumption) | (refine Pre.n ?_; assumption)) | ((with_reducible (first | refine CD.to (hc _) ?_ | refine CQ.pure (fun _ => hc _) ?_ | refine CD.to (hc' _) ?_ | refine CQ.pure (fun _ => hc' _) ?_ | refine bcase_d (fun hb => ?_) (fun hb => ?_) | refine bcase_mk (fun hb => ?_) (fun hb => ?_))) <;> try simp -implicitDefEqProofs only [push_cast, seval, hok]) | with_reducible refine And.intro ?_ ?_ | omega | (simp only [alloc_n, set_n, kill_n]; omega) | (exfalso; omega))
  | true =>
    obtain ⟨hk, hw, ht, hy, hb⟩ := msgOk_ m hok
    have z1 := vt_size (n := m.task) (by omega)
    have z2 := vt_size (n := m.try_) (by omega)
    have z0 : (⟨#[UInt8.ofNat (IntKind.u8.wrap m.kind).toNat, UInt8.ofNat (IntKind.u8.wrap m.worker).toNat]⟩ : ByteArray).size = 2 := rfl
    have zz := msgBytes_size m hok
    have e0 : msgText m = sealT (msgBytes m) := by simp [msgText, hok]
    have hc : ∀ h', CD Try.prog 13 [.agg #[.int .i64 m.kind, .int .i64 m.worker, .int .i64 m.task, .int .i64 m.try_, .string m.body]] h' (.bool (msgOk m)) h' := fun h' => MessageOk_s m h'
    have hc' : ∀ h', CD Try.prog 15 [.agg #[.int .i64 m.kind, .int .i64 m.worker, .int .i64 m.task, .int .i64 m.try_, .string m.body]] h' (.bool (msgOk m)) h' := fun h' => MessageOk_i m h'
    simp only [Msg.v, e0]
    refine CC.ofN Try.func20 Try.ntmps20 Try.results20 rfl (by decide) (by kernel_rfl) ?_
    simp -implicitDefEqProofs only [push_cast, seval]
    repeat' (first | with_reducible (first | exact Keep.refl _ _ | assumption | exact byte_lt _ _ | apply Keep.alloc | (refine Keep.set ?_ ?_; rotate_left; · omega) | apply Pre.alloc | apply Pre.set | exact Pre.refl _ | exact le_alloc _ | (refine Pre.keep ?_; assumption) | (refine Pre.n ?_; assumption)) | ((with_reducible (first | refine CD.to (hc _) ?_ | refine CQ.pure (fun _ => hc _) ?_ | refine CD.to (hc' _) ?_ | refine CQ.pure (fun _ => hc' _) ?_ | refine bcase_d (fun hb => ?_) (fun hb => ?_) | refine bcase_mk (fun hb => ?_) (fun hb => ?_))) <;> try simp -implicitDefEqProofs only [push_cast, seval, hok]) | with_reducible refine And.intro ?_ ?_ | omega | (simp only [alloc_n, set_n, kill_n]; omega) | (exfalso; omega))
    refine WC.draw' (by kernel_rfl) (by kernel_rfl) (.q 0 (.q 1 (.q 2 (.q 3 (.q 4 (.q 5 (.q 8 (.q 9 (.q 12 (.q 13 (.q 16 (.q 17 (.c 10 (.c 14 (.a 6 false (.q 7 (.q 11 (.q 15 (.q 18 (.c 19 (.q 20 (.q 21 (.q 22 (.q 23 (.done))))))))))))))))))))))))) (by kernel_rfl) ?_
    simp -implicitDefEqProofs only [push_cast, seval]
    repeat' (first | with_reducible (first | exact Keep.refl _ _ | assumption | exact byte_lt _ _ | apply Keep.alloc | (refine Keep.set ?_ ?_; rotate_left; · omega) | apply Pre.alloc | apply Pre.set | exact Pre.refl _ | exact le_alloc _ | (refine Pre.keep ?_; assumption) | (refine Pre.n ?_; assumption)) | ((with_reducible (first | refine CD.to (l01Var_c _ ?_ _) ?_ | refine CQ.pure (fun _ => l01Var_c _ ?_ _) ?_ | refine CD.to (Sealed_s _ ?_ _) ?_ | refine CQ.pure (fun _ => Sealed_s _ ?_ _) ?_ | refine bcase_d (fun hb => ?_) (fun hb => ?_) | refine bcase_mk (fun hb => ?_) (fun hb => ?_))) <;> try simp -implicitDefEqProofs only [push_cast, seval, z0, ByteArray.size_append]) | with_reducible refine And.intro ?_ ?_ | omega | (simp only [alloc_n, set_n, kill_n]; omega) | (exfalso; omega))
    rw [if_pos (by omega), decide_eq_true (by omega)]; rfl
theorem Unsealed_i (t : ByteArray) (hs : t.size ≤ maxLen) (h : AH) : CD Try.prog 66 [.string t] h (.tuple #[.string ((unsealT t).getD ⟨#[]⟩), .bool (unsealT t).isSome]) h := by
  refine CD.quiet ?_ (low_tuple (by simp [low_string, low_bool]))
  have hm := maxLen_eq
  have w1 : IntKind.i64.wrap ((t.size : Int) - 4) = (t.size : Int) - 4 := by rw [w64 (by omega) (by omega)]
  by_cases h4 : t.size < 4
  · have e : unsealT t = none := by simp [unsealT, h4]
    rw [e]
    refine CC.ofN Try.func66 Try.ntmps66 Try.results66 rfl (by decide) (by kernel_rfl) ?_
    simp -implicitDefEqProofs only [push_cast, seval]
    repeat' (first | with_reducible (first | exact Keep.refl _ _ | assumption | exact byte_lt _ _ | apply Keep.alloc | (refine Keep.set ?_ ?_; rotate_left; · omega) | apply Pre.alloc | apply Pre.set | exact Pre.refl _ | exact le_alloc _ | (refine Pre.keep ?_; assumption) | (refine Pre.n ?_; assumption)) | ((with_reducible (first | refine bcase_d (fun hb => ?_) (fun hb => ?_) | refine bcase_mk (fun hb => ?_) (fun hb => ?_))) <;> try simp -implicitDefEqProofs only [push_cast, seval, w1]) | with_reducible refine And.intro ?_ ?_ | omega | (simp only [alloc_n, set_n, kill_n]; omega) | (exfalso; omega))
    all_goals rfl
  · have e : unsealT t = if t.size - 4 ≤ 20000 ∧ sealT (t.extract 0 (t.size - 4)) = t then some (t.extract 0 (t.size - 4)) else none := by rw [unsealT, if_neg h4]
    have ez : (t.extract 0 (t.size - 4)).size = t.size - 4 := by simp only [ByteArray.size_extract]; omega
    have en : ((t.size : Int) - 4).toNat = t.size - 4 := by omega
    rw [e]
    refine CC.ofN Try.func66 Try.ntmps66 Try.results66 rfl (by decide) (by kernel_rfl) ?_
    simp -implicitDefEqProofs only [push_cast, seval]
    repeat' (first | with_reducible (first | exact Keep.refl _ _ | assumption | exact byte_lt _ _ | apply Keep.alloc | (refine Keep.set ?_ ?_; rotate_left; · omega) | apply Pre.alloc | apply Pre.set | exact Pre.refl _ | exact le_alloc _ | (refine Pre.keep ?_; assumption) | (refine Pre.n ?_; assumption)) | ((with_reducible (first | refine CD.to (Sealed_i _ ?_ _) ?_ | refine CQ.pure (fun _ => Sealed_i _ ?_ _) ?_ | refine bcase_d (fun hb => ?_) (fun hb => ?_) | refine bcase_mk (fun hb => ?_) (fun hb => ?_))) <;> try simp -implicitDefEqProofs only [push_cast, seval, w1, en, ez]) | with_reducible refine And.intro ?_ ?_ | omega | (simp only [alloc_n, set_n, kill_n]; omega) | (exfalso; omega))
    all_goals grind
theorem Unsealed_s (t : ByteArray) (hs : t.size ≤ maxLen) (h : AH) : CD Try.prog 64 [.string t] h (.tuple #[.string ((unsealT t).getD ⟨#[]⟩), .bool (unsealT t).isSome]) h := by
  refine CD.quiet ?_ (low_tuple (by simp [low_string, low_bool]))
  have hm := maxLen_eq
  have w1 : IntKind.i64.wrap ((t.size : Int) - 4) = (t.size : Int) - 4 := by rw [w64 (by omega) (by omega)]
  by_cases h4 : t.size < 4
  · have e : unsealT t = none := by simp [unsealT, h4]
    rw [e]
    refine CC.ofN Try.func64 Try.ntmps64 Try.results64 rfl (by decide) (by kernel_rfl) ?_
    simp -implicitDefEqProofs only [push_cast, seval, w1]
    refine WC.draw' (by kernel_rfl) (by kernel_rfl) (.q 0 (.q 1 (.q 2 (.q 3 (.q 4 (.q 5 (.q 6 (.q 7 (.q 8 (.q 9 (.q 10 (.q 11 (.q 12 (.c 13 (.c 14 (.q 15 (.q 16 (.done)))))))))))))))))) (by kernel_rfl) ?_
    simp -implicitDefEqProofs only [push_cast, seval]
    repeat' (first | with_reducible (first | exact Keep.refl _ _ | assumption | exact byte_lt _ _ | apply Keep.alloc | (refine Keep.set ?_ ?_; rotate_left; · omega) | apply Pre.alloc | apply Pre.set | exact Pre.refl _ | exact le_alloc _ | (refine Pre.keep ?_; assumption) | (refine Pre.n ?_; assumption)) | ((with_reducible (first | refine bcase_d (fun hb => ?_) (fun hb => ?_) | refine bcase_mk (fun hb => ?_) (fun hb => ?_))) <;> try simp -implicitDefEqProofs only [push_cast, seval, w1]) | with_reducible refine And.intro ?_ ?_ | omega | (simp only [alloc_n, set_n, kill_n]; omega) | (exfalso; omega))
    all_goals rfl
  · have e : unsealT t = if t.size - 4 ≤ 20000 ∧ sealT (t.extract 0 (t.size - 4)) = t then some (t.extract 0 (t.size - 4)) else none := by rw [unsealT, if_neg h4]
    simp only [seal_iff h4] at e
    have ez : (t.extract 0 (t.size - 4)).size = t.size - 4 := by simp only [ByteArray.size_extract]; omega
    have en : ((t.size : Int) - 4).toNat = t.size - 4 := by omega
    have hu := crc_u32 (t.extract 0 (t.size - 4))
    rw [e]
    refine CC.ofN Try.func64 Try.ntmps64 Try.results64 rfl (by decide) (by kernel_rfl) ?_
    simp -implicitDefEqProofs only [push_cast, seval, w1]
    refine WC.draw' (by kernel_rfl) (by kernel_rfl) (.q 0 (.q 1 (.q 2 (.q 3 (.q 4 (.q 5 (.q 6 (.q 7 (.q 8 (.q 9 (.q 10 (.q 11 (.q 12 (.c 13 (.c 14 (.q 15 (.q 16 (.done)))))))))))))))))) (by kernel_rfl) ?_
    simp -implicitDefEqProofs only [push_cast, seval]
    repeat' (first | with_reducible (first | exact Keep.refl _ _ | assumption | exact byte_lt _ _ | apply Keep.alloc | (refine Keep.set ?_ ?_; rotate_left; · omega) | apply Pre.alloc | apply Pre.set | exact Pre.refl _ | exact le_alloc _ | (refine Pre.keep ?_; assumption) | (refine Pre.n ?_; assumption)) | ((with_reducible (first | refine CD.to (SumOf_s _ ?_ _) ?_ | refine CQ.pure (fun _ => SumOf_s _ ?_ _) ?_ | refine CD.to (Four_s _ ?_ _) ?_ | refine CQ.pure (fun _ => Four_s _ ?_ _) ?_ | refine bcase_d (fun hb => ?_) (fun hb => ?_) | refine bcase_mk (fun hb => ?_) (fun hb => ?_))) <;> try simp -implicitDefEqProofs only [push_cast, seval, w1, en, ez]) | with_reducible refine And.intro ?_ ?_ | omega | (simp only [alloc_n, set_n, kill_n]; omega) | (exfalso; omega))
    all_goals grind
end Go.Proofs.Ytfbcedjheempfaa
