/- Parts of the proof of the row: the ground, contracts of the functions that it reaches (L62, L63, L64, L65, L66, P11, L67, L68, L69, L70, L71, L72, L73, L74, L102, L103). Conditions: those that each theorem names. -/
import Derived.Test.YtdlpdfclljnmhaaGreatB4
namespace Go.Proofs.YtdlpdfclljnmhaaGreat
open Go Go.Sim Go.Proofs
set_option linter.unusedSimpArgs false
set_option linter.unusedVariables false
set_option maxRecDepth 100000
set_option maxHeartbeats 1000000
def OweS (fn : FuncId) (s : ByteArray) (lo : Nat) (rd : Nat → List Pc → PRes) : Prop := ∀ n0 p k out h, lo ≤ k → Rg (cS s) s n0 p h k out → out.length + 2 * (s.size - k) ≤ 50 → CC Tryz.prog fn [.pointer (some ⟨p, 0, none⟩)] h (Ro (cS s) s n0 p h (out.length + 2 * (s.size - k)) (rd k out))
theorem ext_one (s : ByteArray) (b : Nat) (hb : b < s.size) : (⟨#[UInt8.ofNat (byteAt s b).toNat]⟩ : ByteArray) = s.extract b (b + 1) := by
  apply ByteArray.ext
  rw [ByteArray.data_extract]
  apply Array.ext
  · rw [Array.size_extract]
    show 1 = min (b + 1) s.size - b
    omega
  · intro i h1 h2
    have hi : i = 0 := by simp at h1; omega
    subst hi
    have hb' : b < s.data.size := hb
    simp [byteAt, Array.getElem_extract, Array.getElem?_eq_getElem hb']
theorem thing_s (n0 p : Nat) (s : ByteArray) (k : Nat) (out : List Pc) (h : AH) (hs : s.size ≤ 24) (alt : Nat → List Pc → PRes) (ha : OweS 145 s (k + 1) alt) (hg : GoodR 1 s alt) (G : Rg (cS s) s n0 p h k out) (hj : out.length + 2 * (s.size - k) ≤ 50) :
    CC Tryz.prog 173 [.pointer (some ⟨p, 0, none⟩)] h (Ro (cS s) s n0 p h (out.length + 2 * (s.size - k)) (pBase alt s k out)) := by
  have hp := G.lt
  have hn := G.le
  have hk := G.hi
  obtain ⟨v, L, e, w, hL⟩ := G.ex
  have hle : L.length = out.length := by rw [← hL]; simp
  simp only [cS] at e
  have bad : ∀ a : Nat, a ≤ s.size → ∀ r : Nat, Ro (cS s) s n0 p h (out.length + 2 * (s.size - k)) none (.int .i64 (r : Nat)) (h.set p (.cells [.string s, .int .i64 (a : Nat), .bool true, v] .solo p)) := fun a ha r =>
    ⟨(Fr.refl n0 h).set hn _, .inr ⟨rfl, ⟨r, rfl⟩, Rb.atP G.lt hn w (by omega) ha⟩⟩
  by_cases hkl : k < s.size
  case neg =>
    have eP : pBase alt s k out = none := by
      have a := fun c => isAt_no (s := s) (k := k) (c := c) (by omega)
      unfold pBase pSingle
      simp [a]
      omega
    rw [eP]
    refine CC.ofN Tryz.func173 Tryz.ntmps173 Tryz.results173 rfl (by decide) (by kernel_rfl) ?_
    simp (maxSteps := 1000000) -implicitDefEqProofs only [push_cast, seval]
    refine WC.draw' (by kernel_rfl) (by kernel_rfl) (.q 0 (.q 1 (.q 2 (.q 3 (.q 4 (.q 5 (.q 6 (.q 7 (.q 8 (.q 9 (.q 10 (.q 11 (.q 12 (.q 13 (.q 14 (.q 15 (.done))))))))))))))))) (by kernel_rfl) ?_
    simp (maxSteps := 1000000) -implicitDefEqProofs only [push_cast, seval, e, rd_of e, rd1_of e, hp]
    with_reducible refine bcase_d (fun hb => ?_) (fun hb => ?_)
    · simp (maxSteps := 1000000) -implicitDefEqProofs only [push_cast, seval, e, rd_of e, rd1_of e, hp]
      exact bad k hk 0
    · exfalso; omega
  obtain ⟨k1, ek1⟩ : ∃ k1, k1 = k + 1 := ⟨_, rfl⟩
  have w0 : IntKind.i64.wrap ((k : Int) + 1) = (k1 : Int) := by rw [wrapSucc (by omega), ek1]
  have hR : ∀ a : Nat, a ≤ s.size → Rg (cS s) s n0 p (h.set p (.cells (cS s a false v) .solo p)) a out := fun a ha => by rw [← hL]; exact Rg.at hp hn w ha
  have fr : ∀ o, Fr n0 h (h.set p o) := fun o => (Fr.refl n0 h).set hn o
  have leaf : ∀ (op : Nat) (oi : Int) (hoi : (op : Int) = oi), CC Tryz.prog 162 [.pointer (some ⟨p, 0, none⟩), .agg #[.int .i64 oi, .string ⟨#[]⟩, .slice none 0 0]] (h.set p (.cells [.string s, .int .i64 (k1 : Nat), .bool false, v] .solo p)) (Ro (cS s) s n0 p h (out.length + 2 * (s.size - k)) (some (k1, out ++ [⟨op, ⟨#[]⟩, []⟩], out.length))) := fun op oi hoi =>
    CC.mono (putNs n0 p s k1 out op oi hoi ⟨#[]⟩ _ (hR k1 (by omega)) (by omega)) (fun y h2 hy => by rw [hy.1]; exact Ro.some ((fr _).trans hy.2.1) hy.2.2)
  have hat : ∀ c, isAt s k c = ((byteAt s k).toNat == c) := fun c => isAt_of hkl
  unfold pBase
  rw [← ek1]
  by_cases h94 : (byteAt s k).toNat = 94
  · rw [if_pos (by rw [hat, h94]; rfl)]
    refine CC.ofN Tryz.func173 Tryz.ntmps173 Tryz.results173 rfl (by decide) (by kernel_rfl) ?_
    simp (maxSteps := 1000000) -implicitDefEqProofs only [push_cast, seval]
    refine WC.draw' (by kernel_rfl) (by kernel_rfl) (.q 0 (.q 1 (.q 2 (.q 3 (.q 4 (.q 5 (.q 6 (.q 7 (.q 8 (.q 9 (.q 10 (.q 11 (.q 12 (.q 13 (.q 14 (.q 15 (.done))))))))))))))))) (by kernel_rfl) ?_
    simp (maxSteps := 1000000) -implicitDefEqProofs only [push_cast, seval, e, rd_of e, rd1_of e, hp]
    with_reducible refine bcase_d (fun hb => ?_) (fun hb => ?_)
    · exfalso; omega
    simp (maxSteps := 1000000) -implicitDefEqProofs only [push_cast, seval, e, rd_of e, rd1_of e, hp]
    refine WC.draw' (by kernel_rfl) (by kernel_rfl) (.q 0 (.q 1 (.q 2 (.q 3 (.q 4 (.q 5 (.q 6 (.q 7 (.q 8 (.q 9 (.done))))))))))) (by kernel_rfl) ?_
    simp (maxSteps := 1000000) -implicitDefEqProofs only [push_cast, seval, e, rd_of e, rd1_of e, hp]
    repeat (with_reducible refine And.intro ?_ ?_; · (first | omega | decide))
    simp (maxSteps := 1000000) -implicitDefEqProofs only [push_cast, seval, e, rd_of e, rd1_of e, hp, h94, w0]
    with_reducible refine CC.mono (leaf 10 10 rfl) (fun y h2 hy => ?_)
    simp (maxSteps := 1000000) -implicitDefEqProofs only [push_cast, seval]
    exact hy
  rw [if_neg (by rw [hat]; simpa using h94)]
  by_cases h36 : (byteAt s k).toNat = 36
  · rw [if_pos (by rw [hat, h36]; rfl)]
    refine CC.ofN Tryz.func173 Tryz.ntmps173 Tryz.results173 rfl (by decide) (by kernel_rfl) ?_
    simp (maxSteps := 1000000) -implicitDefEqProofs only [push_cast, seval]
    refine WC.draw' (by kernel_rfl) (by kernel_rfl) (.q 0 (.q 1 (.q 2 (.q 3 (.q 4 (.q 5 (.q 6 (.q 7 (.q 8 (.q 9 (.q 10 (.q 11 (.q 12 (.q 13 (.q 14 (.q 15 (.done))))))))))))))))) (by kernel_rfl) ?_
    simp (maxSteps := 1000000) -implicitDefEqProofs only [push_cast, seval, e, rd_of e, rd1_of e, hp]
    with_reducible refine bcase_d (fun hb => ?_) (fun hb => ?_)
    · exfalso; omega
    simp (maxSteps := 1000000) -implicitDefEqProofs only [push_cast, seval, e, rd_of e, rd1_of e, hp]
    refine WC.draw' (by kernel_rfl) (by kernel_rfl) (.q 0 (.q 1 (.q 2 (.q 3 (.q 4 (.q 5 (.q 6 (.q 7 (.q 8 (.q 9 (.done))))))))))) (by kernel_rfl) ?_
    simp (maxSteps := 1000000) -implicitDefEqProofs only [push_cast, seval, e, rd_of e, rd1_of e, hp]
    repeat (with_reducible refine And.intro ?_ ?_; · (first | omega | decide))
    simp (maxSteps := 1000000) -implicitDefEqProofs only [push_cast, seval, e, rd_of e, rd1_of e, hp, h36, w0]
    with_reducible refine CC.mono (leaf 11 11 rfl) (fun y h2 hy => ?_)
    simp (maxSteps := 1000000) -implicitDefEqProofs only [push_cast, seval]
    exact hy
  rw [if_neg (by rw [hat]; simpa using h36)]
  by_cases h46 : (byteAt s k).toNat = 46
  · rw [if_pos (by rw [hat, h46]; rfl)]
    refine CC.ofN Tryz.func173 Tryz.ntmps173 Tryz.results173 rfl (by decide) (by kernel_rfl) ?_
    simp (maxSteps := 1000000) -implicitDefEqProofs only [push_cast, seval]
    refine WC.draw' (by kernel_rfl) (by kernel_rfl) (.q 0 (.q 1 (.q 2 (.q 3 (.q 4 (.q 5 (.q 6 (.q 7 (.q 8 (.q 9 (.q 10 (.q 11 (.q 12 (.q 13 (.q 14 (.q 15 (.done))))))))))))))))) (by kernel_rfl) ?_
    simp (maxSteps := 1000000) -implicitDefEqProofs only [push_cast, seval, e, rd_of e, rd1_of e, hp]
    with_reducible refine bcase_d (fun hb => ?_) (fun hb => ?_)
    · exfalso; omega
    simp (maxSteps := 1000000) -implicitDefEqProofs only [push_cast, seval, e, rd_of e, rd1_of e, hp]
    refine WC.draw' (by kernel_rfl) (by kernel_rfl) (.q 0 (.q 1 (.q 2 (.q 3 (.q 4 (.q 5 (.q 6 (.q 7 (.q 8 (.q 9 (.done))))))))))) (by kernel_rfl) ?_
    simp (maxSteps := 1000000) -implicitDefEqProofs only [push_cast, seval, e, rd_of e, rd1_of e, hp]
    repeat (with_reducible refine And.intro ?_ ?_; · (first | omega | decide))
    simp (maxSteps := 1000000) -implicitDefEqProofs only [push_cast, seval, e, rd_of e, rd1_of e, hp, h46, w0]
    with_reducible refine CC.mono (leaf 2 2 rfl) (fun y h2 hy => ?_)
    simp (maxSteps := 1000000) -implicitDefEqProofs only [push_cast, seval]
    exact hy
  rw [if_neg (by rw [hat]; simpa using h46)]
  by_cases h91 : (byteAt s k).toNat = 91
  · rw [if_pos (by rw [hat, h91]; rfl)]
    refine CC.ofN Tryz.func173 Tryz.ntmps173 Tryz.results173 rfl (by decide) (by kernel_rfl) ?_
    simp (maxSteps := 1000000) -implicitDefEqProofs only [push_cast, seval]
    refine WC.draw' (by kernel_rfl) (by kernel_rfl) (.q 0 (.q 1 (.q 2 (.q 3 (.q 4 (.q 5 (.q 6 (.q 7 (.q 8 (.q 9 (.q 10 (.q 11 (.q 12 (.q 13 (.q 14 (.q 15 (.done))))))))))))))))) (by kernel_rfl) ?_
    simp (maxSteps := 1000000) -implicitDefEqProofs only [push_cast, seval, e, rd_of e, rd1_of e, hp]
    with_reducible refine bcase_d (fun hb => ?_) (fun hb => ?_)
    · exfalso; omega
    simp (maxSteps := 1000000) -implicitDefEqProofs only [push_cast, seval, e, rd_of e, rd1_of e, hp]
    refine WC.draw' (by kernel_rfl) (by kernel_rfl) (.q 0 (.q 1 (.q 2 (.q 3 (.q 4 (.q 5 (.q 6 (.q 7 (.q 8 (.q 9 (.done))))))))))) (by kernel_rfl) ?_
    simp (maxSteps := 1000000) -implicitDefEqProofs only [push_cast, seval, e, rd_of e, rd1_of e, hp]
    repeat (with_reducible refine And.intro ?_ ?_; · (first | omega | decide))
    simp (maxSteps := 1000000) -implicitDefEqProofs only [push_cast, seval, e, rd_of e, rd1_of e, hp, h91, w0]
    have hset := set_s n0 p s k out h hs G hkl hj
    rw [← ek1] at hset
    with_reducible refine CC.mono hset (fun y h2 hy => ?_)
    simp (maxSteps := 1000000) -implicitDefEqProofs only [push_cast, seval]
    exact hy
  rw [if_neg (by rw [hat]; simpa using h91)]
  by_cases h40 : (byteAt s k).toNat = 40
  · rw [if_pos (by rw [hat, h40]; rfl)]
    have hA := ha n0 p k1 out _ (by omega) (hR k1 (by omega)) (by omega)
    have hb0 := fun k' o' r => hg k1 out k' o' r (by omega)
    simp only [cS] at hA
    generalize alt k1 out = res at *
    refine CC.ofN Tryz.func173 Tryz.ntmps173 Tryz.results173 rfl (by decide) (by kernel_rfl) ?_
    simp (maxSteps := 1000000) -implicitDefEqProofs only [push_cast, seval]
    refine WC.draw' (by kernel_rfl) (by kernel_rfl) (.q 0 (.q 1 (.q 2 (.q 3 (.q 4 (.q 5 (.q 6 (.q 7 (.q 8 (.q 9 (.q 10 (.q 11 (.q 12 (.q 13 (.q 14 (.q 15 (.done))))))))))))))))) (by kernel_rfl) ?_
    simp (maxSteps := 1000000) -implicitDefEqProofs only [push_cast, seval, e, rd_of e, rd1_of e, hp]
    with_reducible refine bcase_d (fun hb => ?_) (fun hb => ?_)
    · exfalso; omega
    simp (maxSteps := 1000000) -implicitDefEqProofs only [push_cast, seval, e, rd_of e, rd1_of e, hp]
    refine WC.draw' (by kernel_rfl) (by kernel_rfl) (.q 0 (.q 1 (.q 2 (.q 3 (.q 4 (.q 5 (.q 6 (.q 7 (.q 8 (.q 9 (.done))))))))))) (by kernel_rfl) ?_
    simp (maxSteps := 1000000) -implicitDefEqProofs only [push_cast, seval, e, rd_of e, rd1_of e, hp]
    repeat (with_reducible refine And.intro ?_ ?_; · (first | omega | decide))
    simp (maxSteps := 1000000) -implicitDefEqProofs only [push_cast, seval, e, rd_of e, rd1_of e, hp, h40, w0]
    with_reducible refine CC.mono hA (fun y h1 hy => ?_)
    clear hA
    with_reducible refine hy.cases (fun k2 o2 r2 er ey f2 G2 => ?_) (fun er r2 ey f2 B2 => ?_)
    · clear hy
      subst ey er
      have hb1 := (hb0 _ _ _ rfl).pot
      have hl1 := (hb0 _ _ _ rfl).le
      have hp1 := G2.lt
      have hk2 := G2.hi
      with_reducible refine G2.cell (fun v2 L2 e2 w2 hL2 hl2 => ?_)
      have hI := is_s p s k2 false v2 41 41 rfl h1 e2 hp1 hs
      simp only [cS] at e2
      simp only [pClose]
      simp (maxSteps := 1000000) -implicitDefEqProofs only [push_cast, seval]
      with_reducible refine CD.to hI ?_
      clear hI
      cases hc : isAt s k2 41 with
      | true =>
        have hlt := isAt_lt hc
        obtain ⟨k3, ek3⟩ : ∃ k3, k3 = k2 + 1 := ⟨_, rfl⟩
        have w3 : IntKind.i64.wrap ((k2 : Int) + 1) = (k3 : Int) := by rw [wrapSucc (by omega), ek3]
        rw [← ek3]
        simp (maxSteps := 1000000) -implicitDefEqProofs only [push_cast, seval, e2, rd_of e2, rd1_of e2, hp1, w3]
        refine Ro.some (((fr _).trans f2).set hn _) ?_
        rw [← hL2]
        exact Rg.at hp1 hn w2 (by omega)
      | false =>
        simp (maxSteps := 1000000) -implicitDefEqProofs only [push_cast, seval, e2, rd_of e2, rd1_of e2, hp1]
        exact Ro.none (((fr _).trans f2).set hn _) (Rb.atP hp1 hn w2 (by omega) hk2)
    · clear hy
      subst ey er
      have hp1 := B2.lt
      with_reducible refine B2.cell (fun k2 v2 cs j a e2 g d c f => ?_)
      have hI := is_s p s k2 true v2 41 41 rfl h1 e2 hp1 hs
      simp only [cS] at e2
      simp (maxSteps := 1000000) -implicitDefEqProofs only [push_cast, seval]
      with_reducible refine CD.to hI ?_
      simp (maxSteps := 1000000) -implicitDefEqProofs only [push_cast, seval, e2, rd_of e2, rd1_of e2, hp1]
      exact Ro.none (((fr _).trans f2).set hn _) (Rb.at hp1 hn g d (by omega) f a)
  rw [if_neg (by rw [hat]; simpa using h40)]
  have single : ∀ (b : Nat) (b1 : Nat), b < s.size → b1 = b + 1 → k ≤ b → ∀ o, CC Tryz.prog 162 [.pointer (some ⟨p, 0, none⟩), .agg #[.int .i64 1, .string ⟨#[UInt8.ofNat (byteAt s b).toNat]⟩, .slice none 0 0]] ((h.set p (.cells [.string s, .int .i64 (b1 : Nat), .bool false, v] .solo p)).alloc o) (Ro (cS s) s n0 p h (out.length + 2 * (s.size - k)) (some (b + 1, out ++ [⟨1, s.extract b (b + 1), []⟩], out.length))) := fun b b1 hb eb hkb o => by
    subst eb
    rw [ext_one s b hb]
    exact CC.mono (putNs n0 p s (b + 1) out 1 1 rfl _ _ ((hR (b + 1) (by omega)).pre ((Pre.refl _).alloc _)) (by omega)) (fun y h2 hy => by rw [hy.1]; exact Ro.some (((fr _).trans ((Fr.refl _ _).alloc (by show n0 ≤ h.n; omega) _)).trans hy.2.1) hy.2.2)
  by_cases h92 : (byteAt s k).toNat = 92
  · have h92' : isAt s k 92 = true := by rw [hat, h92]; rfl
    have hB := fun b (hb : b < s.size) h => l04Special_c (byteAt s b).toNat (by have := (byteAt s b).toNat_lt; omega) h
    have eP : pSingle s k out = (if k1 < s.size ∧ special (byteAt s k1).toNat = true then some (k1 + 1, out ++ [⟨1, s.extract k1 (k1 + 1), []⟩], out.length) else none) := by
      unfold pSingle
      simp only [h92', if_true, ek1]
      exact ite_congr (propext (and_congr Iff.rfl ⟨Eq.symm, Eq.symm⟩)) (fun _ => rfl) (fun _ => rfl)
    rw [eP]
    refine CC.ofN Tryz.func173 Tryz.ntmps173 Tryz.results173 rfl (by decide) (by kernel_rfl) ?_
    simp (maxSteps := 1000000) -implicitDefEqProofs only [push_cast, seval]
    refine WC.draw' (by kernel_rfl) (by kernel_rfl) (.q 0 (.q 1 (.q 2 (.q 3 (.q 4 (.q 5 (.q 6 (.q 7 (.q 8 (.q 9 (.q 10 (.q 11 (.q 12 (.q 13 (.q 14 (.q 15 (.done))))))))))))))))) (by kernel_rfl) ?_
    simp (maxSteps := 1000000) -implicitDefEqProofs only [push_cast, seval, e, rd_of e, rd1_of e, hp]
    with_reducible refine bcase_d (fun hb => ?_) (fun hb => ?_)
    · exfalso; omega
    simp (maxSteps := 1000000) -implicitDefEqProofs only [push_cast, seval, e, rd_of e, rd1_of e, hp]
    refine WC.draw' (by kernel_rfl) (by kernel_rfl) (.q 0 (.q 1 (.q 2 (.q 3 (.q 4 (.q 5 (.q 6 (.q 7 (.q 8 (.q 9 (.done))))))))))) (by kernel_rfl) ?_
    simp (maxSteps := 1000000) -implicitDefEqProofs only [push_cast, seval, e, rd_of e, rd1_of e, hp]
    repeat (with_reducible refine And.intro ?_ ?_; · (first | omega | decide))
    simp (maxSteps := 1000000) -implicitDefEqProofs only [push_cast, seval, e, rd_of e, rd1_of e, hp, h92, w0]
    refine WC.draw' (by kernel_rfl) (by kernel_rfl) (.q 0 (.q 1 (.q 2 (.q 3 (.q 4 (.q 5 (.q 6 (.q 7 (.q 8 (.q 9 (.q 10 (.q 11 (.q 12 (.q 13 (.q 14 (.q 15 (.q 16 (.q 17 (.q 18 (.q 19 (.c 20 (.q 21 (.q 22 (.done)))))))))))))))))))))))) (by kernel_rfl) ?_
    simp (maxSteps := 1000000) -implicitDefEqProofs only [push_cast, seval, e, rd_of e, rd1_of e, hp, h92, w0]
    with_reducible refine bcase_d (fun hb => ?_) (fun hb => ?_)
    · rw [if_neg (by omega)]
      simp (maxSteps := 1000000) -implicitDefEqProofs only [push_cast, seval, e, rd_of e, rd1_of e, hp, h92, w0]
      exact bad k1 (by omega) 0
    · have hk1 : k1 < s.size := by omega
      obtain ⟨k2, ek2⟩ : ∃ k2, k2 = k1 + 1 := ⟨_, rfl⟩
      have w2 : IntKind.i64.wrap ((k1 : Int) + 1) = (k2 : Int) := by rw [wrapSucc (by omega), ek2]
      have hs1 := single k1 k2 hk1 ek2 (by omega)
      simp (maxSteps := 1000000) -implicitDefEqProofs only [push_cast, seval, e, rd_of e, rd1_of e, hp, h92, w0]
      repeat (with_reducible refine And.intro ?_ ?_; · (first | omega | decide))
      refine CQ.pure (fun h' => hB k1 hk1 h') ?_
      cases hsp : special (byteAt s k1).toNat with
      | true =>
        rw [if_pos ⟨hk1, rfl⟩]
        simp (maxSteps := 1000000) -implicitDefEqProofs only [push_cast, seval, e, rd_of e, rd1_of e, hp, h92, w0]
        refine WC.draw' (by kernel_rfl) (by kernel_rfl) (.q 0 (.q 1 (.q 2 (.q 3 (.q 4 (.q 5 (.q 6 (.q 7 (.q 8 (.q 9 (.done))))))))))) (by kernel_rfl) ?_
        simp (maxSteps := 1000000) -implicitDefEqProofs only [push_cast, seval, e, rd_of e, rd1_of e, hp, h92, w0, w2]
        repeat (with_reducible refine And.intro ?_ ?_; · (first | omega | decide))
        with_reducible refine CC.mono (hs1 _) (fun y h2 hy => ?_)
        simp (maxSteps := 1000000) -implicitDefEqProofs only [push_cast, seval]
        exact hy
      | false =>
        rw [if_neg (by simp)]
        simp (maxSteps := 1000000) -implicitDefEqProofs only [push_cast, seval, e, rd_of e, rd1_of e, hp, h92, w0]
        exact bad k1 (by omega) 0
  have h92' : isAt s k 92 = false := by rw [hat]; simpa using h92
  have eP : pSingle s k out = (if special (byteAt s k).toNat = false then some (k + 1, out ++ [⟨1, s.extract k (k + 1), []⟩], out.length) else none) := by
    unfold pSingle
    simp only [h92', Bool.false_eq_true, if_false]
    exact ite_congr (propext ⟨fun e => e.2.symm, fun e => ⟨hkl, e.symm⟩⟩) (fun _ => rfl) (fun _ => rfl)
  rw [eP]
  have hB := fun h => l04Special_c (byteAt s k).toNat (by have := (byteAt s k).toNat_lt; omega) h
  have hs1 := single k k1 hkl ek1 (Nat.le_refl _)
  have n94 : (((byteAt s k).toNat : Int) = 94) = False := eq_false (by omega)
  have n36 : (((byteAt s k).toNat : Int) = 36) = False := eq_false (by omega)
  have n46 : (((byteAt s k).toNat : Int) = 46) = False := eq_false (by omega)
  have n91 : (((byteAt s k).toNat : Int) = 91) = False := eq_false (by omega)
  have n40 : (((byteAt s k).toNat : Int) = 40) = False := eq_false (by omega)
  have n92 : (((byteAt s k).toNat : Int) = 92) = False := eq_false (by omega)
  refine CC.ofN Tryz.func173 Tryz.ntmps173 Tryz.results173 rfl (by decide) (by kernel_rfl) ?_
  simp (maxSteps := 1000000) -implicitDefEqProofs only [push_cast, seval]
  refine WC.draw' (by kernel_rfl) (by kernel_rfl) (.q 0 (.q 1 (.q 2 (.q 3 (.q 4 (.q 5 (.q 6 (.q 7 (.q 8 (.q 9 (.q 10 (.q 11 (.q 12 (.q 13 (.q 14 (.q 15 (.done))))))))))))))))) (by kernel_rfl) ?_
  simp (maxSteps := 1000000) -implicitDefEqProofs only [push_cast, seval, e, rd_of e, rd1_of e, hp]
  with_reducible refine bcase_d (fun hb => ?_) (fun hb => ?_)
  · exfalso; omega
  simp (maxSteps := 1000000) -implicitDefEqProofs only [push_cast, seval, e, rd_of e, rd1_of e, hp]
  refine WC.draw' (by kernel_rfl) (by kernel_rfl) (.q 0 (.q 1 (.q 2 (.q 3 (.q 4 (.q 5 (.q 6 (.q 7 (.q 8 (.q 9 (.done))))))))))) (by kernel_rfl) ?_
  simp (maxSteps := 1000000) -implicitDefEqProofs only [push_cast, seval, e, rd_of e, rd1_of e, hp]
  repeat (with_reducible refine And.intro ?_ ?_; · (first | omega | decide))
  simp (maxSteps := 1000000) -implicitDefEqProofs only [push_cast, seval, e, rd_of e, rd1_of e, hp, n94, n36, n46, n91, n40, n92, w0]
  with_reducible refine CD.to (hB _) ?_
  cases hsp : special (byteAt s k).toNat with
  | true =>
    rw [if_neg (by simp)]
    simp (maxSteps := 1000000) -implicitDefEqProofs only [push_cast, seval, e, rd_of e, rd1_of e, hp, w0]
    exact bad k hk 0
  | false =>
    rw [if_pos rfl]
    simp (maxSteps := 1000000) -implicitDefEqProofs only [push_cast, seval, e, rd_of e, rd1_of e, hp, w0]
    with_reducible refine CC.mono (hs1 _) (fun y h2 hy => ?_)
    simp (maxSteps := 1000000) -implicitDefEqProofs only [push_cast, seval]
    exact hy
end Go.Proofs.YtdlpdfclljnmhaaGreat
namespace Go.Proofs.YtdlpdfclljnmhaaGreat
open Go Go.Sim Go.Proofs
set_option linter.unusedSimpArgs false
set_option linter.unusedVariables false
set_option maxRecDepth 100000
set_option maxHeartbeats 1000000
def LqS (s : ByteArray) (k0 n0 p : Nat) (h : AH) (m mg : Nat) (cont : Nat → Nat → List Pc → Nat → PRes) (res : PRes) (a : Nat × Nat × List Pc × Nat) (h' : AH) : Prop :=
  Fr n0 h h' ∧ ((k0 ≤ a.2.1 ∧ s.size - a.2.1 < a.1 ∧ Rg (cS s) s n0 p h' a.2.1 a.2.2.1 ∧ cont a.1 a.2.1 a.2.2.1 a.2.2.2 = res ∧ a.2.2.1.length + 2 * (s.size - a.2.1) ≤ mg) ∨ (a.1 = 0 ∧ res = none ∧ Rb (cS s) s n0 p h' m))
theorem isAt_byte {s : ByteArray} {k c : Nat} (h : isAt s k c = true) : (byteAt s k).toNat = c := by
  simp only [isAt, Bool.and_eq_true, beq_iff_eq] at h; exact h.2
theorem many_os (s : ByteArray) (hs : s.size ≤ 24) (lo : Nat) (alt : Nat → List Pc → PRes) (ha : OweS 145 s (lo + 1) alt) (hg : GoodR 1 s alt) : OweS 170 s lo (pThing alt s) := by
  intro n0 p k out h hlo G hj
  have hA := thing_s n0 p s k out h hs alt (fun n0 p k' out h hk => ha n0 p k' out h (by omega)) hg G hj
  have hb0 := fun k' o' r => pBase_gd hg k out k' o' r G.hi
  have hp := G.lt
  have hn := G.le
  have hk := G.hi
  generalize hm : out.length + 2 * (s.size - k) = m at *
  have eP : pThing alt s k out = pK (pBase alt s k out) (fun k o r => some (pStars s (s.size + 1) k o r)) := rfl
  rw [eP]
  generalize pBase alt s k out = res0 at *
  refine CC.ofN Tryz.func170 Tryz.ntmps170 Tryz.results170 rfl (by decide) (by kernel_rfl) ?_
  simp (maxSteps := 1000000) -implicitDefEqProofs only [push_cast, seval]
  with_reducible refine CC.mono hA (fun y h1 hy => ?_)
  have key : ∃ (a : Nat × Nat × List Pc × Nat) (res : PRes), LqS s k n0 p h m m (fun g k o r => some (pStars s g k o r)) res a h1 ∧ y = .int .i64 (a.2.2.2 : Nat) ∧ res = pK res0 (fun k o r => some (pStars s (s.size + 1) k o r)) := by
    refine hy.cases (fun k1 o1 r1 er ey f1 G1 => ?_) (fun er r1 ey f1 B1 => ?_)
    · subst er
      have hb1 := (hb0 _ _ _ rfl).pot
      exact ⟨(s.size + 1, k1, o1, r1), _, ⟨f1, .inl ⟨(hb0 _ _ _ rfl).le, by show s.size - k1 < s.size + 1; omega, G1, rfl, by show o1.length + 2 * (s.size - k1) ≤ m; omega⟩⟩, ey, rfl⟩
    · subst er
      exact ⟨(0, 0, [], r1), none, ⟨f1, .inr ⟨rfl, rfl, B1⟩⟩, ey, rfl⟩
  clear hy hA
  with_reducible refine Exists.elim key (fun a0 key => ?_)
  with_reducible refine Exists.elim key (fun res key => ?_)
  have hJ0 := key.1
  have ey := key.2.1
  have er := key.2.2
  clear key
  rw [← er]
  subst ey
  clear er hb0
  simp (maxSteps := 1000000) -implicitDefEqProofs only [push_cast, seval]
  refine WC.loopA (by kernel_rfl) [3] [4, 7, 8, 9, 10, 11, 12, 13, 14, 15, 16, 17, 18, 19, 20, 21, 22, 23, 24, 25, 26, 27, 28, 29, 30, 31, 32, 33, 34, 35, 36, 37, 38, 39, 40, 41, 42, 43, 44, 45, 46, 47, 48, 49, 50] (fun a : Nat × Nat × List Pc × Nat => [.int .i64 (a.2.2.2 : Nat)]) (LqS s k n0 p h m m (fun g k o r => some (pStars s g k o r)) res) (fun a => a.1) a0 (by kernel_rfl) hJ0 ?_
  clear hJ0
  intro a g h2 hJ
  unfold LqS at hJ
  have f2 := hJ.1
  with_reducible refine Or.elim hJ.2 (fun hl => ?_) (fun hl => ?_)
  · have hk0 := hl.1
    have hg2 := hl.2.1
    have G2 := hl.2.2.1
    have hr2 := hl.2.2.2.1
    have hb2 := hl.2.2.2.2
    clear hl hJ
    simp only at hr2
    have hgs : ∃ g0, a.1 = g0 + 1 := ⟨a.1 - 1, by omega⟩
    with_reducible refine Exists.elim hgs (fun g0 hg0 => ?_)
    rw [hg0, pStars] at hr2
    have hp2 := G2.lt
    have hk2 := G2.hi
    with_reducible refine G2.cell (fun v L e w hL hl2 => ?_)
    have j1 := is_s p s a.2.1 false v 42 42 rfl h2 e hp2 hs
    have j2 := is_s p s a.2.1 false v 43 43 rfl h2 e hp2 hs
    have j3 := is_s p s a.2.1 false v 63 63 rfl h2 e hp2 hs
    simp only [Bool.not_false, Bool.true_and] at j1 j2 j3
    simp only [cS] at e
    obtain ⟨k3, ek3⟩ : ∃ k3, k3 = a.2.1 + 1 := ⟨_, rfl⟩
    rw [← ek3] at hr2
    have w3 : IntKind.i64.wrap ((a.2.1 : Int) + 1) = (k3 : Int) := by rw [wrapSucc (by omega), ek3]
    have hR : a.2.1 < s.size → Rg (cS s) s n0 p (h2.set p (.cells [.string s, .int .i64 (k3 : Nat), .bool false, v] .solo p)) k3 a.2.2.1 := fun hx => by rw [← hL]; exact Rg.at (C := cS s) hp2 hn w (by omega)
    simp (maxSteps := 1000000) -implicitDefEqProofs only [push_cast, seval]
    with_reducible refine CD.to j1 ?_
    cases c1 : isAt s a.2.1 42 with
    | true =>
      have hlt := isAt_lt c1
      have hby := isAt_byte c1
      simp (maxSteps := 1000000) -implicitDefEqProofs only [push_cast, seval]
      refine WC.draw' (by kernel_rfl) (by kernel_rfl) (.q 0 (.q 1 (.q 2 (.q 3 (.q 4 (.q 5 (.q 6 (.q 7 (.q 8 (.q 9 (.done))))))))))) (by kernel_rfl) ?_
      simp (maxSteps := 1000000) -implicitDefEqProofs only [push_cast, seval, e, rd_of e, rd1_of e, hp2]
      repeat (with_reducible refine And.intro ?_ ?_; · (first | omega | decide))
      simp (maxSteps := 1000000) -implicitDefEqProofs only [push_cast, seval, e, rd_of e, rd1_of e, hp2, hby]
      refine WC.draw' (by kernel_rfl) (by kernel_rfl) (.q 0 (.q 1 (.q 2 (.q 3 (.q 4 (.q 5 (.q 6 (.q 7 (.q 8 (.q 9 (.done))))))))))) (by kernel_rfl) ?_
      simp (maxSteps := 1000000) -implicitDefEqProofs only [push_cast, seval, e, rd_of e, rd1_of e, hp2]
      repeat (with_reducible refine And.intro ?_ ?_; · (first | omega | decide))
      simp (maxSteps := 1000000) -implicitDefEqProofs only [push_cast, seval, e, rd_of e, rd1_of e, hp2, hby, w3]
      have hU := putGs1 n0 p s k3 _ 7 a.2.2.2 7 rfl _ (hR hlt) (by omega)
      simp only [n_set] at hU
      with_reducible refine CC.mono hU (fun y h4 hy => ?_)
      clear hU
      have ey := hy.1
      have f4 := hy.2.1
      have G4 := hy.2.2
      clear hy
      subst ey
      simp (maxSteps := 1000000) -implicitDefEqProofs only [push_cast, seval]
      simp only [c1, if_true, Bool.false_eq_true, if_false] at hr2
      refine ⟨(g0, k3, a.2.2.1 ++ ([⟨7, ⟨#[]⟩, [a.2.2.2]⟩] : List Pc), a.2.2.1.length), by kernel_rfl, ⟨f2.trans (((Fr.refl _ _).set hn _).trans f4), .inl ⟨by show k ≤ k3; omega, by show s.size - k3 < g0; omega, G4, hr2, by show (a.2.2.1 ++ [_]).length + 2 * (s.size - k3) ≤ m; rw [List.length_append]; simp only [List.length_cons, List.length_nil]; omega⟩⟩, by show g0 < a.1; omega⟩
    | false =>
      simp (maxSteps := 1000000) -implicitDefEqProofs only [push_cast, seval]
      with_reducible refine CD.to j2 ?_
      cases c2 : isAt s a.2.1 43 with
      | true =>
        have hlt := isAt_lt c2
        have hby := isAt_byte c2
        simp (maxSteps := 1000000) -implicitDefEqProofs only [push_cast, seval]
        refine WC.draw' (by kernel_rfl) (by kernel_rfl) (.q 0 (.q 1 (.q 2 (.q 3 (.q 4 (.q 5 (.q 6 (.q 7 (.q 8 (.q 9 (.done))))))))))) (by kernel_rfl) ?_
        simp (maxSteps := 1000000) -implicitDefEqProofs only [push_cast, seval, e, rd_of e, rd1_of e, hp2]
        repeat (with_reducible refine And.intro ?_ ?_; · (first | omega | decide))
        simp (maxSteps := 1000000) -implicitDefEqProofs only [push_cast, seval, e, rd_of e, rd1_of e, hp2, hby]
        refine WC.draw' (by kernel_rfl) (by kernel_rfl) (.q 0 (.q 1 (.q 2 (.q 3 (.q 4 (.q 5 (.q 6 (.q 7 (.q 8 (.q 9 (.done))))))))))) (by kernel_rfl) ?_
        simp (maxSteps := 1000000) -implicitDefEqProofs only [push_cast, seval, e, rd_of e, rd1_of e, hp2]
        repeat (with_reducible refine And.intro ?_ ?_; · (first | omega | decide))
        simp (maxSteps := 1000000) -implicitDefEqProofs only [push_cast, seval, e, rd_of e, rd1_of e, hp2, hby, w3]
        have hU := putGs1 n0 p s k3 _ 8 a.2.2.2 8 rfl _ (hR hlt) (by omega)
        simp only [n_set] at hU
        with_reducible refine CC.mono hU (fun y h4 hy => ?_)
        clear hU
        have ey := hy.1
        have f4 := hy.2.1
        have G4 := hy.2.2
        clear hy
        subst ey
        simp (maxSteps := 1000000) -implicitDefEqProofs only [push_cast, seval]
        simp only [c1, c2, if_true, Bool.false_eq_true, if_false] at hr2
        refine ⟨(g0, k3, a.2.2.1 ++ ([⟨8, ⟨#[]⟩, [a.2.2.2]⟩] : List Pc), a.2.2.1.length), by kernel_rfl, ⟨f2.trans (((Fr.refl _ _).set hn _).trans f4), .inl ⟨by show k ≤ k3; omega, by show s.size - k3 < g0; omega, G4, hr2, by show (a.2.2.1 ++ [_]).length + 2 * (s.size - k3) ≤ m; rw [List.length_append]; simp only [List.length_cons, List.length_nil]; omega⟩⟩, by show g0 < a.1; omega⟩
      | false =>
        simp (maxSteps := 1000000) -implicitDefEqProofs only [push_cast, seval]
        with_reducible refine CD.to j3 ?_
        cases c3 : isAt s a.2.1 63 with
        | true =>
          have hlt := isAt_lt c3
          have hby := isAt_byte c3
          simp (maxSteps := 1000000) -implicitDefEqProofs only [push_cast, seval]
          refine WC.draw' (by kernel_rfl) (by kernel_rfl) (.q 0 (.q 1 (.q 2 (.q 3 (.q 4 (.q 5 (.q 6 (.q 7 (.q 8 (.q 9 (.done))))))))))) (by kernel_rfl) ?_
          simp (maxSteps := 1000000) -implicitDefEqProofs only [push_cast, seval, e, rd_of e, rd1_of e, hp2]
          repeat (with_reducible refine And.intro ?_ ?_; · (first | omega | decide))
          simp (maxSteps := 1000000) -implicitDefEqProofs only [push_cast, seval, e, rd_of e, rd1_of e, hp2, hby]
          refine WC.draw' (by kernel_rfl) (by kernel_rfl) (.q 0 (.q 1 (.q 2 (.q 3 (.q 4 (.q 5 (.q 6 (.q 7 (.q 8 (.q 9 (.done))))))))))) (by kernel_rfl) ?_
          simp (maxSteps := 1000000) -implicitDefEqProofs only [push_cast, seval, e, rd_of e, rd1_of e, hp2]
          repeat (with_reducible refine And.intro ?_ ?_; · (first | omega | decide))
          simp (maxSteps := 1000000) -implicitDefEqProofs only [push_cast, seval, e, rd_of e, rd1_of e, hp2, hby, w3]
          have hU := putGs1 n0 p s k3 _ 9 a.2.2.2 9 rfl _ (hR hlt) (by omega)
          simp only [n_set] at hU
          with_reducible refine CC.mono hU (fun y h4 hy => ?_)
          clear hU
          have ey := hy.1
          have f4 := hy.2.1
          have G4 := hy.2.2
          clear hy
          subst ey
          simp (maxSteps := 1000000) -implicitDefEqProofs only [push_cast, seval]
          simp only [c1, c2, c3, if_true, Bool.false_eq_true, if_false] at hr2
          refine ⟨(g0, k3, a.2.2.1 ++ ([⟨9, ⟨#[]⟩, [a.2.2.2]⟩] : List Pc), a.2.2.1.length), by kernel_rfl, ⟨f2.trans (((Fr.refl _ _).set hn _).trans f4), .inl ⟨by show k ≤ k3; omega, by show s.size - k3 < g0; omega, G4, hr2, by show (a.2.2.1 ++ [_]).length + 2 * (s.size - k3) ≤ m; rw [List.length_append]; simp only [List.length_cons, List.length_nil]; omega⟩⟩, by show g0 < a.1; omega⟩
        | false =>
          simp (maxSteps := 1000000) -implicitDefEqProofs only [push_cast, seval]
          simp only [c1, c2, c3, Bool.false_eq_true, if_false] at hr2
          rw [← hr2]
          exact Ro.some f2 G2
  · have hB := hl.2.2
    have hr := hl.2.1
    clear hl hJ
    have hp2 := hB.lt
    with_reducible refine hB.cell (fun k v cs j a e g d c f => ?_)
    have j1 := is_s p s k true v 42 42 rfl h2 e hp2 hs
    have j2 := is_s p s k true v 43 43 rfl h2 e hp2 hs
    have j3 := is_s p s k true v 63 63 rfl h2 e hp2 hs
    simp only [Bool.not_true, Bool.false_and] at j1 j2 j3
    simp (maxSteps := 1000000) -implicitDefEqProofs only [push_cast, seval]
    with_reducible refine CD.to j1 ?_
    simp (maxSteps := 1000000) -implicitDefEqProofs only [push_cast, seval]
    with_reducible refine CD.to j2 ?_
    simp (maxSteps := 1000000) -implicitDefEqProofs only [push_cast, seval]
    with_reducible refine CD.to j3 ?_
    simp (maxSteps := 1000000) -implicitDefEqProofs only [push_cast, seval]
    rw [hr]
    exact Ro.none f2 hB
end Go.Proofs.YtdlpdfclljnmhaaGreat
namespace Go.Proofs.YtdlpdfclljnmhaaGreat
open Go Go.Sim Go.Proofs
set_option linter.unusedSimpArgs false
set_option linter.unusedVariables false
set_option maxRecDepth 100000
set_option maxHeartbeats 1000000
theorem row_os (s : ByteArray) (hs : s.size ≤ 24) (lo : Nat) (th : Nat → List Pc → PRes) (ht : OweS 170 s lo th) (hg : GoodR 3 s th) : OweS 160 s lo (pRow th s) := by
  intro n0 p k out h hlo G hj
  have hA := ht n0 p k out h hlo G hj
  have hb0 := fun k' o' r => hg k out k' o' r G.hi
  have hp := G.lt
  have hn := G.le
  have hk := G.hi
  have hz : k ≤ s.size := G.hi
  generalize hm : out.length + 2 * (s.size - k) = m at *
  rw [pRow_eq]
  with_reducible refine G.cell (fun v L e w hL hl => ?_)
  simp only [cS] at e
  have hput := putNs n0 p s k out 12 12 rfl ⟨#[]⟩ h G (by omega)
  by_cases hst : pStop s k = true
  · rw [if_pos hst]
    simp only [pStop, Bool.or_eq_true, decide_eq_true_eq] at hst
    refine CC.ofN Tryz.func160 Tryz.ntmps160 Tryz.results160 rfl (by decide) (by kernel_rfl) ?_
    simp (maxSteps := 1000000) -implicitDefEqProofs only [push_cast, seval]
    refine WC.draw' (by kernel_rfl) (by kernel_rfl) (.q 0 (.q 1 (.q 2 (.q 3 (.q 4 (.q 5 (.q 6 (.q 7 (.q 8 (.q 9 (.q 10 (.q 11 (.q 12 (.q 13 (.q 14 (.q 15 (.q 16 (.q 17 (.q 18 (.q 19 (.q 20 (.q 21 (.q 22 (.q 23 (.q 24 (.q 25 (.q 26 (.q 27 (.q 28 (.q 29 (.q 30 (.q 31 (.q 32 (.q 33 (.done))))))))))))))))))))))))))))))))))) (by kernel_rfl) ?_
    simp (maxSteps := 1000000) -implicitDefEqProofs only [push_cast, seval, e, rd_of e, rd1_of e, hp]
    with_reducible refine bcase_d (fun hb => ?_) (fun hb => ?_)
    · simp (maxSteps := 1000000) -implicitDefEqProofs only [push_cast, seval, e, rd_of e, rd1_of e, hp]
      with_reducible refine CC.mono hput (fun y h2 hy => ?_)
      have ey := hy.1
      have f2 := hy.2.1
      have G2 := hy.2.2
      clear hy
      subst ey
      simp (maxSteps := 1000000) -implicitDefEqProofs only [push_cast, seval]
      exact Ro.some f2 G2
    have hkl : k < s.size := by omega
    simp (maxSteps := 1000000) -implicitDefEqProofs only [push_cast, seval, e, rd_of e, rd1_of e, hp]
    repeat (with_reducible refine And.intro ?_ ?_; · (first | omega | decide))
    with_reducible refine bcase_d (fun hb1 => ?_) (fun hb1 => ?_)
    · simp (maxSteps := 1000000) -implicitDefEqProofs only [push_cast, seval, e, rd_of e, rd1_of e, hp]
      with_reducible refine CC.mono hput (fun y h2 hy => ?_)
      have ey := hy.1
      have f2 := hy.2.1
      have G2 := hy.2.2
      clear hy
      subst ey
      simp (maxSteps := 1000000) -implicitDefEqProofs only [push_cast, seval]
      exact Ro.some f2 G2
    simp (maxSteps := 1000000) -implicitDefEqProofs only [push_cast, seval, e, rd_of e, rd1_of e, hp]
    repeat (with_reducible refine And.intro ?_ ?_; · (first | omega | decide))
    with_reducible refine bcase_d (fun hb2 => ?_) (fun hb2 => ?_)
    · simp (maxSteps := 1000000) -implicitDefEqProofs only [push_cast, seval, e, rd_of e, rd1_of e, hp]
      with_reducible refine CC.mono hput (fun y h2 hy => ?_)
      have ey := hy.1
      have f2 := hy.2.1
      have G2 := hy.2.2
      clear hy
      subst ey
      simp (maxSteps := 1000000) -implicitDefEqProofs only [push_cast, seval]
      exact Ro.some f2 G2
    · exfalso
      rw [isAt_of hkl, isAt_of hkl, beq_iff_eq, beq_iff_eq] at hst
      omega
  · rw [if_neg hst]
    simp only [pStop, Bool.or_eq_true, decide_eq_true_eq, not_or, Bool.not_eq_true] at hst
    have n1 := hst.1.1
    have c1 := hst.1.2
    have c2 := hst.2
    have hkl : k < s.size := by omega
    rw [isAt_of hkl, beq_eq_false_iff_ne] at c1 c2
    generalize th k out = res0 at *
    refine CC.ofN Tryz.func160 Tryz.ntmps160 Tryz.results160 rfl (by decide) (by kernel_rfl) ?_
    simp (maxSteps := 1000000) -implicitDefEqProofs only [push_cast, seval]
    refine WC.draw' (by kernel_rfl) (by kernel_rfl) (.q 0 (.q 1 (.q 2 (.q 3 (.q 4 (.q 5 (.q 6 (.q 7 (.q 8 (.q 9 (.q 10 (.q 11 (.q 12 (.q 13 (.q 14 (.q 15 (.q 16 (.q 17 (.q 18 (.q 19 (.q 20 (.q 21 (.q 22 (.q 23 (.q 24 (.q 25 (.q 26 (.q 27 (.q 28 (.q 29 (.q 30 (.q 31 (.q 32 (.q 33 (.done))))))))))))))))))))))))))))))))))) (by kernel_rfl) ?_
    simp (maxSteps := 1000000) -implicitDefEqProofs only [push_cast, seval, e, rd_of e, rd1_of e, hp]
    with_reducible refine bcase_d (fun hb => ?_) (fun hb => ?_)
    · exfalso; omega
    simp (maxSteps := 1000000) -implicitDefEqProofs only [push_cast, seval, e, rd_of e, rd1_of e, hp]
    repeat (with_reducible refine And.intro ?_ ?_; · (first | omega | decide))
    with_reducible refine bcase_d (fun hb => ?_) (fun hb => ?_)
    · exfalso; omega
    simp (maxSteps := 1000000) -implicitDefEqProofs only [push_cast, seval, e, rd_of e, rd1_of e, hp]
    repeat (with_reducible refine And.intro ?_ ?_; · (first | omega | decide))
    with_reducible refine bcase_d (fun hb => ?_) (fun hb => ?_)
    · exfalso; omega
    simp (maxSteps := 1000000) -implicitDefEqProofs only [push_cast, seval, e, rd_of e, rd1_of e, hp]
    with_reducible refine CC.mono hA (fun y h1 hy => ?_)
    have key : ∃ (a : Nat × Nat × List Pc × Nat) (res : PRes), LqS s k n0 p h m (m - 1) (pCats th s) res a h1 ∧ y = .int .i64 (a.2.2.2 : Nat) ∧ res = pK res0 (pCats th s (s.size + 1)) := by
      refine hy.cases (fun k1 o1 r1 er ey f1 G1 => ?_) (fun er r1 ey f1 B1 => ?_)
      · subst er
        have hb1 := (hb0 _ _ _ rfl).pot
        exact ⟨(s.size + 1, k1, o1, r1), _, ⟨f1, .inl ⟨(hb0 _ _ _ rfl).le, by show s.size - k1 < s.size + 1; omega, G1, rfl, by show o1.length + 2 * (s.size - k1) ≤ m - 1; omega⟩⟩, ey, rfl⟩
      · subst er
        exact ⟨(0, 0, [], r1), none, ⟨f1, .inr ⟨rfl, rfl, B1⟩⟩, ey, rfl⟩
    clear hy hA
    with_reducible refine Exists.elim key (fun a0 key => ?_)
    with_reducible refine Exists.elim key (fun res key => ?_)
    have hJ0 := key.1
    have ey := key.2.1
    have er := key.2.2
    clear key
    rw [← er]
    subst ey
    clear er hb0
    simp (maxSteps := 1000000) -implicitDefEqProofs only [push_cast, seval]
    refine WC.loopA (by kernel_rfl) [3] [4, 44, 45, 46, 47, 48, 49, 50, 51, 52, 53, 54, 55, 56, 57, 58, 59, 60, 61, 62, 63, 64, 65, 66, 67, 68, 69, 70, 71, 72, 73, 74, 75, 76, 77, 78, 79, 80, 81, 82, 83, 84, 85, 86, 87, 88, 89, 90, 91, 92] (fun a : Nat × Nat × List Pc × Nat => [.int .i64 (a.2.2.2 : Nat)]) (LqS s k n0 p h m (m - 1) (pCats th s) res) (fun a => a.1) a0 (by kernel_rfl) hJ0 ?_
    clear hJ0 hput e w
    intro a g h2 hJ
    unfold LqS at hJ
    have f2 := hJ.1
    with_reducible refine Or.elim hJ.2 (fun hl => ?_) (fun hl => ?_)
    · have hk0 := hl.1
      have hg2 := hl.2.1
      have G2 := hl.2.2.1
      have hr2 := hl.2.2.2.1
      have hb2 := hl.2.2.2.2
      clear hl hJ
      have hgs : ∃ g0, a.1 = g0 + 1 := ⟨a.1 - 1, by omega⟩
      with_reducible refine Exists.elim hgs (fun g0 hg0 => ?_)
      rw [hg0, pCats_eq] at hr2
      have ex : pStop s a.2.1 = true → Ro (cS s) s n0 p h m res (.int .i64 (a.2.2.2 : Nat)) h2 := fun hs => by
        rw [if_pos hs] at hr2
        rw [← hr2]
        exact Ro.some f2 G2
      have hp2 := G2.lt
      have hk2 := G2.hi
      with_reducible refine G2.cell (fun v L e w hL hl2 => ?_)
      simp only [cS] at e
      simp (maxSteps := 1000000) -implicitDefEqProofs only [push_cast, seval]
      refine WC.draw' (by kernel_rfl) (by kernel_rfl) (.q 0 (.q 1 (.q 2 (.q 3 (.q 4 (.q 5 (.q 6 (.q 7 (.q 8 (.q 9 (.q 10 (.q 11 (.q 12 (.q 13 (.q 14 (.q 15 (.q 16 (.q 17 (.q 18 (.q 19 (.q 20 (.q 21 (.q 22 (.q 23 (.q 24 (.q 25 (.q 26 (.q 27 (.q 28 (.q 29 (.q 30 (.q 31 (.q 32 (.q 33 (.q 34 (.q 35 (.q 36 (.q 37 (.q 38 (.q 39 (.q 40 (.done)))))))))))))))))))))))))))))))))))))))))) (by kernel_rfl) ?_
      simp (maxSteps := 1000000) -implicitDefEqProofs only [push_cast, seval, e, rd_of e, rd1_of e, hp2]
      with_reducible refine bcase_d (fun hb => ?_) (fun hb => ?_)
      case refine_2 =>
        simp (maxSteps := 1000000) -implicitDefEqProofs only [push_cast, seval, e, rd_of e, rd1_of e, hp2]
        exact ex (by simp [pStop]; omega)
      have hkl2 : a.2.1 < s.size := by omega
      simp (maxSteps := 1000000) -implicitDefEqProofs only [push_cast, seval, e, rd_of e, rd1_of e, hp2]
      repeat (with_reducible refine And.intro ?_ ?_; · (first | omega | decide))
      with_reducible refine bcase_d (fun hb1 => ?_) (fun hb1 => ?_)
      · simp (maxSteps := 1000000) -implicitDefEqProofs only [push_cast, seval, e, rd_of e, rd1_of e, hp2]
        exact ex (by simp [pStop, isAt_of hkl2]; omega)
      simp (maxSteps := 1000000) -implicitDefEqProofs only [push_cast, seval, e, rd_of e, rd1_of e, hp2]
      repeat (with_reducible refine And.intro ?_ ?_; · (first | omega | decide))
      with_reducible refine bcase_d (fun hb2 => ?_) (fun hb2 => ?_)
      · simp (maxSteps := 1000000) -implicitDefEqProofs only [push_cast, seval, e, rd_of e, rd1_of e, hp2]
        exact ex (by simp [pStop, isAt_of hkl2]; omega)
      simp (maxSteps := 1000000) -implicitDefEqProofs only [push_cast, seval, e, rd_of e, rd1_of e, hp2]
      clear ex
      have hst : ¬ pStop s a.2.1 = true := by simp [pStop, isAt_of hkl2]; omega
      rw [if_neg hst] at hr2
      have hA := ht n0 p a.2.1 a.2.2.1 h2 (by omega) G2 (by omega)
      have hb0 := fun k' o' r => hg a.2.1 a.2.2.1 k' o' r G2.hi
      generalize th a.2.1 a.2.2.1 = res0 at *
      with_reducible refine CC.mono hA (fun y h3 hy => ?_)
      clear hA
      with_reducible refine hy.cases (fun k3 o3 r3 er ey f3 G3 => ?_) (fun er r3 ey f3 B3 => ?_)
      · clear hy
        subst er ey
        have GG := hb0 _ _ _ rfl
        have gp := GG.pot
        have gl := GG.lt (Nat.le_refl _)
        have gh := GG.hi
        clear hb0 GG
        simp (maxSteps := 1000000) -implicitDefEqProofs only [push_cast, seval]
        with_reducible refine CC.mono (putGs2 n0 p s _ _ 5 a.2.2.2 r3 5 rfl h3 G3 (by omega)) (fun y h4 hy => ?_)
        have ey := hy.1
        have f4 := hy.2.1
        have G4 := hy.2.2
        clear hy
        subst ey
        simp (maxSteps := 1000000) -implicitDefEqProofs only [push_cast, seval]
        refine ⟨(g0, k3, o3 ++ ([⟨5, ⟨#[]⟩, [a.2.2.2, r3]⟩] : List Pc), o3.length), by kernel_rfl, ⟨f2.trans (f3.trans f4), .inl ⟨by show k ≤ k3; omega, by show s.size - k3 < g0; omega, G4, hr2, by show (o3 ++ [_]).length + 2 * (s.size - k3) ≤ m - 1; rw [List.length_append]; simp only [List.length_cons, List.length_nil]; omega⟩⟩, by show g0 < a.1; omega⟩
      · clear hy
        subst er ey
        simp (maxSteps := 1000000) -implicitDefEqProofs only [push_cast, seval]
        with_reducible refine CC.mono (putBs2 n0 p _ s 5 a.2.2.2 r3 5 rfl h3 B3 (by omega)) (fun y h4 hy => ?_)
        with_reducible refine Exists.elim hy.1 (fun r4 ey => ?_)
        have f4 := hy.2.1
        have B4 := hy.2.2
        clear hy
        subst ey
        simp (maxSteps := 1000000) -implicitDefEqProofs only [push_cast, seval]
        refine ⟨(0, 0, [], r4), by kernel_rfl, ⟨f2.trans (f3.trans f4), .inr ⟨rfl, hr2.symm, B4.mono (by omega)⟩⟩, by show 0 < a.1; omega⟩
    · have hB := hl.2.2
      have hr := hl.2.1
      clear hl hJ
      have hp2 := hB.lt
      with_reducible refine hB.cell (fun k v cs j a e g d c f => ?_)
      simp only [cS] at e
      simp (maxSteps := 1000000) -implicitDefEqProofs only [push_cast, seval]
      refine WC.draw' (by kernel_rfl) (by kernel_rfl) (.q 0 (.q 1 (.q 2 (.q 3 (.q 4 (.q 5 (.q 6 (.q 7 (.q 8 (.q 9 (.q 10 (.q 11 (.q 12 (.q 13 (.q 14 (.q 15 (.q 16 (.q 17 (.q 18 (.q 19 (.q 20 (.q 21 (.q 22 (.q 23 (.q 24 (.q 25 (.q 26 (.q 27 (.q 28 (.q 29 (.q 30 (.q 31 (.q 32 (.q 33 (.q 34 (.q 35 (.q 36 (.q 37 (.q 38 (.q 39 (.q 40 (.done)))))))))))))))))))))))))))))))))))))))))) (by kernel_rfl) ?_
      simp (maxSteps := 1000000) -implicitDefEqProofs only [push_cast, seval, e, rd_of e, rd1_of e, hp2]
      rw [hr]
      exact Ro.none f2 hB
end Go.Proofs.YtdlpdfclljnmhaaGreat
namespace Go.Proofs.YtdlpdfclljnmhaaGreat
open Go Go.Sim Go.Proofs
set_option linter.unusedSimpArgs false
set_option linter.unusedVariables false
set_option maxRecDepth 100000
set_option maxHeartbeats 1000000
theorem alt_os (s : ByteArray) (hs : s.size ≤ 24) (lo : Nat) (rw_ : Nat → List Pc → PRes) (ht : OweS 160 s lo rw_) (hg : GoodR 1 s rw_) : OweS 145 s lo (fun k out => pK (rw_ k out) (pBars rw_ s (s.size + 1))) := by
  intro n0 p k out h hlo G hj
  have hA := ht n0 p k out h hlo G hj
  have hb0 := fun k' o' r => hg k out k' o' r G.hi
  have hp := G.lt
  have hn := G.le
  have hk := G.hi
  have hz : k ≤ s.size := G.hi
  generalize hm : out.length + 2 * (s.size - k) = m at *
  simp only
  generalize rw_ k out = res0 at *
  refine CC.ofN Tryz.func145 Tryz.ntmps145 Tryz.results145 rfl (by decide) (by kernel_rfl) ?_
  simp (maxSteps := 1000000) -implicitDefEqProofs only [push_cast, seval]
  with_reducible refine CC.mono hA (fun y h1 hy => ?_)
  have key : ∃ (a : Nat × Nat × List Pc × Nat) (res : PRes), LqS s k n0 p h m (m + 1) (pBars rw_ s) res a h1 ∧ y = .int .i64 (a.2.2.2 : Nat) ∧ res = pK res0 (pBars rw_ s (s.size + 1)) := by
    refine hy.cases (fun k1 o1 r1 er ey f1 G1 => ?_) (fun er r1 ey f1 B1 => ?_)
    · subst er
      have hb1 := (hb0 _ _ _ rfl).pot
      exact ⟨(s.size + 1, k1, o1, r1), _, ⟨f1, .inl ⟨(hb0 _ _ _ rfl).le, by show s.size - k1 < s.size + 1; omega, G1, rfl, by show o1.length + 2 * (s.size - k1) ≤ m + 1; omega⟩⟩, ey, rfl⟩
    · subst er
      exact ⟨(0, 0, [], r1), none, ⟨f1, .inr ⟨rfl, rfl, B1⟩⟩, ey, rfl⟩
  clear hy hA
  with_reducible refine Exists.elim key (fun a0 key => ?_)
  with_reducible refine Exists.elim key (fun res key => ?_)
  have hJ0 := key.1
  have ey := key.2.1
  have er := key.2.2
  clear key
  rw [← er]
  subst ey
  clear er hb0
  simp (maxSteps := 1000000) -implicitDefEqProofs only [push_cast, seval]
  refine WC.loopA (by kernel_rfl) [3] [4, 7, 8, 9, 10, 11, 12, 13, 14, 15, 16, 17, 18, 19, 20, 21, 22, 23, 24] (fun a : Nat × Nat × List Pc × Nat => [.int .i64 (a.2.2.2 : Nat)]) (LqS s k n0 p h m (m + 1) (pBars rw_ s) res) (fun a => a.1) a0 (by kernel_rfl) hJ0 ?_
  clear hJ0
  intro a g h2 hJ
  unfold LqS at hJ
  have f2 := hJ.1
  with_reducible refine Or.elim hJ.2 (fun hl => ?_) (fun hl => ?_)
  · have hk0 := hl.1
    have hg2 := hl.2.1
    have G2 := hl.2.2.1
    have hr2 := hl.2.2.2.1
    have hb2 := hl.2.2.2.2
    clear hl hJ
    have hgs : ∃ g0, a.1 = g0 + 1 := ⟨a.1 - 1, by omega⟩
    with_reducible refine Exists.elim hgs (fun g0 hg0 => ?_)
    rw [hg0, pBars_eq] at hr2
    have hp2 := G2.lt
    have hk2 := G2.hi
    with_reducible refine G2.cell (fun v L e w hL hl2 => ?_)
    have j1 := is_s p s a.2.1 false v 124 124 rfl h2 e hp2 hs
    simp only [Bool.not_false, Bool.true_and] at j1
    simp only [cS] at e
    simp (maxSteps := 1000000) -implicitDefEqProofs only [push_cast, seval]
    with_reducible refine CD.to j1 ?_
    clear j1
    cases c1 : isAt s a.2.1 124 with
    | true =>
      have hlt := isAt_lt c1
      obtain ⟨h3, eh3⟩ : ∃ h3, h3 = h2.set p (.cells [.string s, .int .i64 ((a.2.1 + 1 : Nat) : Int), .bool false, v] .solo p) := ⟨_, rfl⟩
      have f3 : Fr n0 h2 h3 := by rw [eh3]; exact (Fr.refl _ _).set hn _
      have G3 : Rg (cS s) s n0 p h3 (a.2.1 + 1) a.2.2.1 := by rw [eh3, ← hL]; exact Rg.at (C := cS s) hp2 hn w (by omega)
      obtain ⟨k3, ek3⟩ : ∃ k3, k3 = a.2.1 + 1 := ⟨_, rfl⟩
      have w3 : IntKind.i64.wrap ((a.2.1 : Int) + 1) = (k3 : Int) := by rw [wrapSucc (by omega), ek3]
      rw [← ek3] at eh3
      rw [if_pos c1] at hr2
      simp (maxSteps := 1000000) -implicitDefEqProofs only [push_cast, seval, e, rd_of e, rd1_of e, hp2, w3]
      rw [← eh3]
      have hA := ht n0 p (a.2.1 + 1) a.2.2.1 h3 (by omega) G3 (by omega)
      have hb0 := fun k' o' r => hg (a.2.1 + 1) a.2.2.1 k' o' r G3.hi
      generalize rw_ (a.2.1 + 1) a.2.2.1 = res0 at *
      with_reducible refine CC.mono hA (fun y h3b hy => ?_)
      clear hA
      with_reducible refine hy.cases (fun k3 o3 r3 er ey f3b G3b => ?_) (fun er r3 ey f3b B3 => ?_)
      · clear hy
        subst er ey
        have GG := hb0 _ _ _ rfl
        have gp := GG.pot
        have gl := GG.le
        have gh := GG.hi
        clear hb0 GG
        simp (maxSteps := 1000000) -implicitDefEqProofs only [push_cast, seval]
        with_reducible refine CC.mono (putGs2 n0 p s _ _ 6 a.2.2.2 r3 6 rfl h3b G3b (by omega)) (fun y h4 hy => ?_)
        have ey := hy.1
        have f4 := hy.2.1
        have G4 := hy.2.2
        clear hy
        subst ey
        simp (maxSteps := 1000000) -implicitDefEqProofs only [push_cast, seval]
        refine ⟨(g0, k3, o3 ++ ([⟨6, ⟨#[]⟩, [a.2.2.2, r3]⟩] : List Pc), o3.length), by kernel_rfl, ⟨f2.trans (f3.trans (f3b.trans f4)), .inl ⟨by show k ≤ k3; omega, by show s.size - k3 < g0; omega, G4, hr2, by show (o3 ++ [_]).length + 2 * (s.size - k3) ≤ m + 1; rw [List.length_append]; simp only [List.length_cons, List.length_nil]; omega⟩⟩, by show g0 < a.1; omega⟩
      · clear hy
        subst er ey
        simp (maxSteps := 1000000) -implicitDefEqProofs only [push_cast, seval]
        with_reducible refine CC.mono (putBs2 n0 p _ s 6 a.2.2.2 r3 6 rfl h3b B3 (by omega)) (fun y h4 hy => ?_)
        with_reducible refine Exists.elim hy.1 (fun r4 ey => ?_)
        have f4 := hy.2.1
        have B4 := hy.2.2
        clear hy
        subst ey
        simp (maxSteps := 1000000) -implicitDefEqProofs only [push_cast, seval]
        refine ⟨(0, 0, [], r4), by kernel_rfl, ⟨f2.trans (f3.trans (f3b.trans f4)), .inr ⟨rfl, hr2.symm, B4.mono (by omega)⟩⟩, by show 0 < a.1; omega⟩
    | false =>
      simp (maxSteps := 1000000) -implicitDefEqProofs only [push_cast, seval]
      rw [if_neg (by rw [c1]; decide)] at hr2
      rw [← hr2]
      exact Ro.some f2 G2
  · have hB := hl.2.2
    have hr := hl.2.1
    clear hl hJ
    have hp2 := hB.lt
    with_reducible refine hB.cell (fun k v cs j a e g d c f => ?_)
    have j1 := is_s p s k true v 124 124 rfl h2 e hp2 hs
    simp only [Bool.not_true, Bool.false_and] at j1
    simp (maxSteps := 1000000) -implicitDefEqProofs only [push_cast, seval]
    with_reducible refine CD.to j1 ?_
    simp (maxSteps := 1000000) -implicitDefEqProofs only [push_cast, seval]
    rw [hr]
    exact Ro.none f2 hB
theorem alternatives_os (s : ByteArray) (hs : s.size ≤ 24) : ∀ (f lo : Nat), s.size < lo + f → OweS 145 s lo (pAlt s f)
  | 0, lo, hl => fun n0 p k out h hk G => by have := G.hi; omega
  | f + 1, lo, hl => by
    have ha := alternatives_os s hs f (lo + 1) (by omega)
    have gt := pThing_gd (pAlt_gd s f)
    exact alt_os s hs lo _ (row_os s hs lo _ (many_os s hs lo _ ha (pAlt_gd s f)) gt) (pRow_gd gt)
theorem ReadPattern_sF (s : ByteArray) (h : AH) (hs0 : s.size ≤ maxLen) : CC Tryz.prog 125 [.string s] h (fun v h' => Pre h h' ∧ PatVF s h.n v h') := by
  have hml := maxLen_eq
  by_cases hs : 1 ≤ s.size ∧ s.size ≤ 24
  · have hin : inB (s.size : Nat) 1 24 = true := by simp only [inB, Bool.and_eq_true, decide_eq_true_eq]; omega
    have eN : pAlt s (s.size + 1) 0 [] = none → readP s = none := fun e => by unfold readP; rw [if_pos hs, e]
    have eS : ∀ k o r, pAlt s (s.size + 1) 0 [] = some (k, o, r) → readP s = if k = s.size then some o else none := fun k o r e => by unfold readP; rw [if_pos hs, e]
    refine CC.ofN Tryz.func125 Tryz.ntmps125 Tryz.results125 rfl (by decide) (by kernel_rfl) ?_
    simp (maxSteps := 1000000) -implicitDefEqProofs only [push_cast, seval]
    with_reducible refine CD.to (l01In_c _ _ _ _) ?_
    rw [hin]
    simp (maxSteps := 1000000) -implicitDefEqProofs only [push_cast, seval]
    have hA := alternatives_os s hs.2 (s.size + 1) 0 (by omega) (h.n + 1) (h.n + 1) 0 [] ((h.alloc (AOb.cells [.slice none 0 0] .solo h.n)).alloc (AOb.cells [.string s, .int .i64 0, .bool false, .slice none 0 0] .solo (h.n + 1))) (Nat.zero_le _)
      ⟨Nat.lt_succ_self _, Nat.le_refl _, Nat.zero_le _, .slice none 0 0, [], alloc_same _, Pcs.nil _ _ _ _, rfl⟩ (by simp; omega)
    have p0 : Pre h ((h.alloc (AOb.cells [.slice none 0 0] .solo h.n)).alloc (AOb.cells [.string s, .int .i64 0, .bool false, .slice none 0 0] .solo (h.n + 1))) := ((Pre.refl h).alloc _).alloc _
    have c0 : ((h.alloc (AOb.cells [.slice none 0 0] .solo h.n)).alloc (AOb.cells [.string s, .int .i64 0, .bool false, .slice none 0 0] .solo (h.n + 1))).ob h.n = AOb.cells [.slice none 0 0] .solo h.n := (alloc_lt _ (Nat.lt_succ_self _)).trans (alloc_same _)
    have l0 : ((h.alloc (AOb.cells [.slice none 0 0] .solo h.n)).alloc (AOb.cells [.string s, .int .i64 0, .bool false, .slice none 0 0] .solo (h.n + 1))).n = h.n + 2 := rfl
    generalize (h.alloc (AOb.cells [.slice none 0 0] .solo h.n)).alloc (AOb.cells [.string s, .int .i64 0, .bool false, .slice none 0 0] .solo (h.n + 1)) = H at *
    generalize pAlt s (s.size + 1) 0 [] = res at *
    with_reducible refine CC.mono hA (fun y h1 hy => ?_)
    clear hA
    with_reducible refine hy.cases (fun k1 o1 r1 er ey f1 G1 => ?_) (fun er r1 ey f1 B1 => ?_)
    · clear hy
      subst ey
      have eS := eS _ _ _ er
      clear er eN
      have hp1 := G1.lt
      have hk1 := G1.hi
      have c1 : h1.ob h.n = _ := (f1.ob _ (Nat.lt_succ_self _)).trans c0
      have lc : h.n < h1.n := by have := f1.n; omega
      have fp : Pre h h1 := ⟨by have := f1.n; omega, fun i hi => (f1.ob i (by omega)).trans (p0.ob i hi)⟩
      with_reducible refine G1.cell (fun v L e w hL hl => ?_)
      simp only [cS] at e
      simp (maxSteps := 1000000) -implicitDefEqProofs only [push_cast, seval, e, rd_of e, rd1_of e, hp1, c1, rd_of c1, rd1_of c1, lc]
      with_reducible refine bcase_d (fun hb => ?_) (fun hb => ?_)
      · have ek : ¬ k1 = s.size := by omega
        rw [if_neg ek] at eS
        simp (maxSteps := 1000000) -implicitDefEqProofs only [push_cast, seval, e, rd_of e, rd1_of e, hp1, c1, rd_of c1, rd1_of c1, lc]
        exact ⟨fp.set (Nat.le_refl _) _, .inl ⟨eS, rfl⟩⟩
      · have ek : k1 = s.size := by omega
        rw [if_pos ek] at eS
        rw [← hL] at eS
        have y1 := w.pat.r.one
        have y2 := rdv_cells w.pat.r
        simp (maxSteps := 1000000) -implicitDefEqProofs only [push_cast, seval, e, rd_of e, rd1_of e, hp1, c1, rd_of c1, rd1_of c1, lc, y1, y2]
        refine ⟨fp.set (Nat.le_refl _) _, .inr ⟨v, L, eS, rfl, ⟨w.pat.r.keep (Nat.le_refl _) (fun i hi => set_ne _ ?_), fun x hx => (w.kids x hx).keep (Nat.le_refl _) (fun i hi => set_ne _ ?_)⟩, fun i hi => hi.elim (fun e => by have := (w.gr.range e).1; omega) (fun ⟨x, hx, e⟩ => by have := (w.far x hx i e).1; omega)⟩⟩
        · have := (w.gr.range hi).1
          omega
        · have := (w.far x hx i hi).1
          omega
    · clear hy
      subst ey
      have eN := eN er
      clear er eS
      have c1 : h1.ob h.n = _ := (f1.ob _ (Nat.lt_succ_self _)).trans c0
      have lc : h.n < h1.n := by have := f1.n; omega
      have fp : Pre h h1 := ⟨by have := f1.n; omega, fun i hi => (f1.ob i (by omega)).trans (p0.ob i hi)⟩
      have hp1 := B1.lt
      with_reducible refine B1.cell (fun k v cs j a e g d c f => ?_)
      simp only [cS] at e
      simp (maxSteps := 1000000) -implicitDefEqProofs only [push_cast, seval, e, rd_of e, rd1_of e, hp1, c1, rd_of c1, rd1_of c1, lc]
      exact ⟨fp.set (Nat.le_refl _) _, .inl ⟨eN, rfl⟩⟩
  · have hin : inB (s.size : Nat) 1 24 = false := by rw [Bool.eq_false_iff]; simp only [inB, ne_eq, Bool.and_eq_true, decide_eq_true_eq]; omega
    have eR : readP s = none := by unfold readP; rw [if_neg hs]
    refine CC.ofN Tryz.func125 Tryz.ntmps125 Tryz.results125 rfl (by decide) (by kernel_rfl) ?_
    simp (maxSteps := 1000000) -implicitDefEqProofs only [push_cast, seval]
    with_reducible refine CD.to (l01In_c _ _ _ _) ?_
    rw [hin]
    simp (maxSteps := 1000000) -implicitDefEqProofs only [push_cast, seval]
    exact ⟨((Pre.refl h).alloc _).set (Nat.le_refl _) _, .inl ⟨eR, rfl⟩⟩
theorem ReadPattern_s (s : ByteArray) (h : AH) (hs0 : s.size ≤ maxLen) : CC Tryz.prog 125 [.string s] h (fun v h' => Pre h h' ∧ PatV s v h') :=
  CC.mono (ReadPattern_sF s h hs0) (fun _ _ hv => ⟨hv.1, hv.2.v⟩)
end Go.Proofs.YtdlpdfclljnmhaaGreat
namespace Go.Proofs.YtdlpdfclljnmhaaGreat
open Go Go.Sim Go.Proofs
set_option linter.unusedSimpArgs false
set_option linter.unusedVariables false
set_option maxRecDepth 100000
set_option maxHeartbeats 1000000
theorem Mul64_c (n : Nat) (hn : n ≤ 1000) (h : AH) : CD Tryz.prog 159 [.int .u64 1, .int .u64 (n : Nat)] h (.tuple #[.int .u64 0, .int .u64 (n : Nat)]) h := by
  refine CD.quiet ?_ (low_tuple (by simp [low_int]))
  have eb : IntKind.u64.bits = 64 := rfl
  have m32 : min 32 IntKind.u64.bits = 32 := rfl
  have f1 : Int.fdiv 1 (2 ^ 32) = 0 := by decide
  have f0 : Int.fdiv 0 (2 ^ 32) = 0 := by decide
  have fn : Int.fdiv (n : Int) (2 ^ 32) = 0 := by
    rw [Int.fdiv_eq_ediv_of_nonneg _ (by decide)]
    exact Int.ediv_eq_zero_of_lt (by omega) (by omega)
  have wn : IntKind.u64.wrap (n : Int) = n := by
    show ((n : Int) % _) = n
    exact Int.emod_eq_of_lt (by omega) (by show (n : Int) < 18446744073709551616; omega)
  have w0 : IntKind.u64.wrap 0 = 0 := rfl
  have w1 : IntKind.u64.wrap 1 = 1 := rfl
  have an : ∀ (m : Nat), m < 4294967296 → ((BitVec.ofInt IntKind.u64.bits (m : Int) &&& BitVec.ofInt IntKind.u64.bits 4294967295).toNat : Int) = m := fun m hm => by
    show ((BitVec.ofInt 64 (m : Int) &&& BitVec.ofInt 64 4294967295).toNat : Int) = m
    rw [BitVec.toNat_and]
    have h2 : (BitVec.ofInt 64 4294967295).toNat = 2 ^ 32 - 1 := by decide
    have h3 : (BitVec.ofInt 64 (m : Int)).toNat = m := by simp; omega
    rw [h2, h3, Nat.and_two_pow_sub_one_eq_mod]
    omega
  have a1 : ((BitVec.ofInt IntKind.u64.bits 1 &&& BitVec.ofInt IntKind.u64.bits 4294967295).toNat : Int) = 1 := by decide
  have a0 : ((BitVec.ofInt IntKind.u64.bits 0 &&& BitVec.ofInt IntKind.u64.bits 4294967295).toNat : Int) = 0 := by decide
  have an' := an n (by omega)
  refine CC.ofN Tryz.func159 Tryz.ntmps159 Tryz.results159 rfl (by decide) (by kernel_rfl) ?_
  simp (maxSteps := 1000000) -implicitDefEqProofs only [push_cast, seval]
  simp only [m32, f1, f0, fn, wn, w0, w1, an', a1, a0, Int.zero_mul, Int.mul_zero, Int.one_mul, Int.add_zero, Int.zero_add, true_and]
  exact Keep.refl _ _
theorem Mul_c (n : Nat) (hn : n ≤ 1000) (h : AH) : CD Tryz.prog 142 [.int .u64 1, .int .u64 (n : Nat)] h (.tuple #[.int .u64 0, .int .u64 (n : Nat)]) h := by
  refine CD.quiet ?_ (low_tuple (by simp [low_int]))
  refine CC.ofN Tryz.func142 Tryz.ntmps142 Tryz.results142 rfl (by decide) (by kernel_rfl) ?_
  simp (maxSteps := 1000000) -implicitDefEqProofs only [push_cast, seval]
  with_reducible refine CD.to (Mul64_c n hn _) ?_
  simp (maxSteps := 1000000) -implicitDefEqProofs only [push_cast, seval]
  exact Keep.refl _ _
theorem alloc_set2 {h : AH} (o o' : AOb) : (h.alloc o).set h.n o' = h.alloc o' := by
  unfold AH.alloc AH.set
  simp only [AH.mk.injEq, true_and]
  funext j
  split <;> rfl
theorem fill_get (x z : Value) (a n j : Nat) (ha : a ≤ n) : (List.replicate a x ++ List.replicate (n - a) z)[j]? = if j < a then some x else if j < n then some z else none := by
  rw [List.getElem?_append]
  simp only [List.length_replicate, List.getElem?_replicate]
  by_cases h1 : j < a
  · simp [h1]
  · by_cases h2 : j < n
    · simp [h1, h2]; omega
    · simp [h1, h2]; omega
theorem putL_fill (x z : Value) (a c n : Nat) (h1 : c ≤ a) (h2 : a + c ≤ n) : putL (List.replicate a x ++ List.replicate (n - a) z) a (List.replicate c x) = List.replicate (a + c) x ++ List.replicate (n - (a + c)) z := by
  apply List.ext_getElem?
  intro j
  rw [fill_get x z (a + c) n j h2]
  by_cases hj : j < a ∨ a + c ≤ j
  · rw [putL_out _ _ _ _ (by simpa using hj), fill_get x z a n j (by omega)]
    rcases hj with hj | hj
    · rw [if_pos hj, if_pos (by omega)]
    · simp only [show ¬ j < a by omega, show ¬ j < a + c by omega, if_false]
  · rw [putL_in' (by omega) (by simp; omega) (by simp; omega), if_pos (by omega)]
    rw [List.getElem?_replicate, if_pos (by omega)]
/-- So many numbers, all the same. -/
theorem Repeat_c (id : Nat) (x : Value) (n : Nat) (h : AH) (r : rd h id 0 1 = some [x]) (hl : id < h.n) (h1 : 1 ≤ n) (hn : n ≤ 1000) :
    CC Tryz.prog 117 [.slice (some ⟨id, 0, none⟩) 1 1, .int .i64 (n : Nat)] h (fun v h' => ∃ q, h.n ≤ q ∧ q < h'.n ∧ v = .slice (some ⟨q, 0, none⟩) n 1 ∧ h'.ob q = .cells (List.replicate n x) .solo q ∧ Pre h h') := by
  have wn : IntKind.u64.wrap (n : Int) = n := by
    show ((n : Int) % _) = n
    exact Int.emod_eq_of_lt (by omega) (by show (n : Int) < 18446744073709551616; omega)
  have wn2 : IntKind.i64.wrap (n : Int) = n := by rw [w64 (by omega) (by omega)]
  have w1 : IntKind.u64.wrap 1 = 1 := rfl
  refine CC.ofN Tryz.func117 Tryz.ntmps117 Tryz.results117 rfl (by decide) (by kernel_rfl) ?_
  simp (maxSteps := 1000000) -implicitDefEqProofs only [push_cast, seval, wn, wn2, w1]
  with_reducible refine bcase_d (fun hb => ?_) (fun hb => ?_)
  · exfalso; omega
  simp (maxSteps := 1000000) -implicitDefEqProofs only [push_cast, seval, wn, wn2, w1]
  with_reducible refine CD.to (Mul_c n hn _) ?_
  simp (maxSteps := 1000000) -implicitDefEqProofs only [push_cast, seval, wn, wn2, w1]
  with_reducible refine bcase_d (fun hb2 => ?_) (fun hb2 => ?_)
  · exfalso; omega
  simp (maxSteps := 1000000) -implicitDefEqProofs only [push_cast, seval, wn, wn2, w1]
  repeat (with_reducible refine And.intro ?_ ?_; · (first | omega | decide))
  have hm1 : Nat.min 1 n = 1 := by show min 1 n = 1; omega
  have hr : rd (h.alloc (AOb.cells (List.replicate n (.int .i64 0)) .solo h.n)) id 0 1 = some [x] := by rw [rd_alloc_lt _ hl]; exact r
  have lz : (List.replicate n (Value.int .i64 0)).length = n := List.length_replicate
  simp (maxSteps := 1000000) -implicitDefEqProofs only [push_cast, seval, hm1, hr, Nat.mul_one, h1, lz]
  refine WC.loopA (by kernel_rfl) [8] [34, 35, 36, 37, 38, 39, 40, 41, 42, 43, 44, 45, 46] (fun a : Nat => [.int .i64 (a : Nat)]) (fun a h' => (1 ≤ a ∧ a ≤ n) ∧ h' = h.alloc (.cells (List.replicate a x ++ List.replicate (n - a) (.int .i64 0)) .solo h.n)) (fun a => n - a) 1 (by kernel_rfl) ⟨⟨Nat.le_refl _, h1⟩, ?_⟩ ?_
  · rw [alloc_set2]
    congr 2
    apply List.ext_getElem?
    intro j
    rw [fill_get x _ 1 n j h1, List.getElem?_set, List.length_replicate, List.getElem?_replicate]
    by_cases hj : j = 0
    · subst hj; rw [if_pos rfl, if_pos (by omega), if_pos (by omega)]
    · rw [if_neg (by omega), if_neg (show ¬ j < 1 by omega)]
  intro a g h2 hJ
  have ha1 := hJ.1.1
  have ha2 := hJ.1.2
  have hh := hJ.2
  clear hJ
  subst hh
  simp (maxSteps := 1000000) -implicitDefEqProofs only [push_cast, seval]
  with_reducible refine bcase_d (fun hb => ?_) (fun hb => ?_)
  · obtain ⟨c, hc⟩ : ∃ c, c = Nat.min a (n - a) := ⟨_, rfl⟩
    have hc1 : c ≤ a ∧ c ≤ n - a ∧ 0 < c := by have : c = min a (n - a) := hc; omega
    simp (maxSteps := 1000000) -implicitDefEqProofs only [push_cast, seval]
    refine WC.draw' (by kernel_rfl) (by kernel_rfl) (.q 0 (.q 1 (.q 2 (.q 3 (.q 4 (.q 5 (.q 6 (.a 7 false (.q 8 (.q 9 (.done))))))))))) (by kernel_rfl) ?_
    simp (maxSteps := 1000000) -implicitDefEqProofs only [push_cast, seval]
    rw [Nat.sub_zero, ← hc]
    have hl2 : (List.replicate a x ++ List.replicate (n - a) (Value.int IntKind.i64 0)).length = n := by simp; omega
    have ht : List.take c (List.replicate a x ++ List.replicate (n - a) (Value.int IntKind.i64 0)) = List.replicate c x := by
      rw [List.take_append_of_le_length (by simp; omega), List.take_replicate]
      congr 1; omega
    rw [hl2, ht, List.length_replicate, Nat.mul_one, putL_fill _ _ _ _ _ hc1.1 (by omega), alloc_set2]
    refine ⟨by omega, by omega, by omega, by omega, by omega, by omega, by omega, by omega, by omega, ?_⟩
    rw [show IntKind.i64.wrap ((a : Int) + (c : Int)) = ((a + c : Nat) : Int) by rw [w64 (by omega) (by omega)]; omega]
    exact ⟨a + c, by kernel_rfl, ⟨⟨by omega, by omega⟩, rfl⟩, by omega⟩
  · simp (maxSteps := 1000000) -implicitDefEqProofs only [push_cast, seval]
    have ea : a = n := by omega
    subst ea
    rw [Nat.sub_self, List.replicate_zero, List.append_nil]
    exact ⟨h.n, Nat.le_refl _, by omega, rfl, alloc_same _, (Pre.refl h).alloc _⟩
end Go.Proofs.YtdlpdfclljnmhaaGreat
/- Code: when it is right. Conditions: none. -/
set_option linter.unusedSimpArgs false
set_option linter.unusedVariables false
namespace Go.Sim
structure Ins where
  op : Int
  arg : Int
  deriving DecidableEq
structure Cod where
  texts : List ByteArray
  list : List Ins
  bgn : Int
  line : Int
  fin : Int
  deriving DecidableEq
def encTx (s : ByteArray) : List Value := [.string s]
def encN (x : Ins) : List Value := [.int .i64 x.op, .int .i64 x.arg]
def insOk (x : Ins) : Bool := inB x.op 1 24 && inB x.arg 0 255
def named (op : Int) : Bool := decide (op = 2) || decide (op = 3) || inB op 17 20 || decide (op = 24)
def texted (op : Int) : Bool := decide (op = 1) || decide (op = 15) || named op
def takesP (x : Ins) : Int :=
  if x.op = 3 ∨ x.op = 4 ∨ x.op = 7 ∨ x.op = 15 ∨ x.op = 17 ∨ x.op = 18 ∨ x.op = 21 then 1
  else if (8 ≤ x.op ∧ x.op ≤ 14) ∨ x.op = 19 ∨ x.op = 20 then 2
  else if x.op = 16 then x.arg else 0
def putsP (x : Ins) : Int := if inB x.op 1 15 then 1 else 0
def argP (t : List ByteArray) (x : Ins) (at_ fin : Nat) : Bool :=
  if texted x.op then decide (x.arg < t.length) && (decide (x.op ≠ 15) || (readP (t.getD x.arg.toNat ⟨#[]⟩)).isSome) && (!named x.op || letters (t.getD x.arg.toNat ⟨#[]⟩))
  else if x.op = 16 then inB x.arg 1 4
  else if x.op = 21 ∨ x.op = 22 then decide ((at_ : Int) < x.arg) && decide (x.arg ≤ fin)
  else decide (x.arg = 0)
def updH (H : Nat → Int) (j : Nat) (n : Int) : Nat → Int := fun i => if i = j then n else H i
def comeP (H : Nat → Int) (j : Nat) (n : Int) : Option (Nat → Int) := if 0 ≤ H j ∧ H j ≠ n then none else some (updH H j n)
def stepP (x : Ins) (at_ : Nat) (H : Nat → Int) : Option (Nat → Int) :=
  if H at_ < 0 then some H
  else if H at_ < takesP x ∨ 20 < H at_ - takesP x + putsP x then none
  else match (if x.op ≠ 23 ∧ x.op ≠ 22 then comeP H (at_ + 1) (H at_ - takesP x + putsP x) else some H) with
    | none => none
    | some H1 => if x.op = 21 ∨ x.op = 22 then comeP H1 x.arg.toNat (H at_ - takesP x + putsP x) else some H1
def partL (t : List ByteArray) (l : List Ins) (fin : Nat) : Nat → Nat → (Nat → Int) → Bool
  | 0, _, H => decide (H fin ≤ 0)
  | g + 1, at_, H => if insOk (l.getD at_ ⟨0, 0⟩) && argP t (l.getD at_ ⟨0, 0⟩) at_ fin then match stepP (l.getD at_ ⟨0, 0⟩) at_ H with
      | none => false
      | some H1 => partL t l fin g (at_ + 1) H1
    else false
def partP (t : List ByteArray) (l : List Ins) (a b : Nat) : Bool := partL t l b (b - a) a (fun j => if j = a then 0 else -1)
def codeOk (c : Cod) : Bool :=
  c.texts.all (fun s => decide (s.size ≤ 30)) && decide (c.texts.length ≤ 60) && decide (c.list.length ≤ 250) && decide (c.bgn = 0) && inB c.line 0 c.list.length && inB c.fin c.line c.list.length &&
  partP c.texts c.list 0 c.line.toNat && partP c.texts c.list c.line.toNat c.fin.toNat && partP c.texts c.list c.fin.toNat c.list.length
theorem partL_ins {t : List ByteArray} {l : List Ins} {fin : Nat} : ∀ (g at_ : Nat) (H : Nat → Int), partL t l fin g at_ H = true → ∀ j, at_ ≤ j → j < at_ + g → insOk (l.getD j ⟨0, 0⟩) = true
  | 0, at_, H, e, j, h1, h2 => by omega
  | g + 1, at_, H, e, j, h1, h2 => by
    unfold partL at e
    split at e
    · rename_i hc
      simp only [Bool.and_eq_true] at hc
      split at e
      · cases e
      · rename_i H1 hs
        by_cases hj : j = at_
        · subst hj; exact hc.1
        · exact partL_ins g (at_ + 1) H1 e j (by omega) (by omega)
    · cases e
theorem codeOk_ins {c : Cod} (h : codeOk c = true) : ∀ j, j < c.list.length → insOk (c.list.getD j ⟨0, 0⟩) = true := by
  simp only [codeOk, Bool.and_eq_true, inB, decide_eq_true_eq] at h
  obtain ⟨⟨⟨⟨⟨_, h1⟩, h2⟩, p1⟩, p2⟩, p3⟩ := h
  intro j hj
  by_cases a : j < c.line.toNat
  · exact partL_ins _ _ _ p1 j (by omega) (by omega)
  · by_cases b : j < c.fin.toNat
    · exact partL_ins _ _ _ p2 j (by omega) (by omega)
    · exact partL_ins _ _ _ p3 j (by omega) (by omega)
theorem takesP_range {x : Ins} (h : insOk x = true) : 0 ≤ takesP x ∧ takesP x ≤ 255 := by
  simp only [insOk, inB, Bool.and_eq_true, decide_eq_true_eq] at h
  unfold takesP
  split
  · omega
  · split
    · omega
    · split <;> omega
theorem putsP_range (x : Ins) : 0 ≤ putsP x ∧ putsP x ≤ 1 := by unfold putsP; split <;> omega
/-- Heights are what they may be. -/
def HOk (H : Nat → Int) : Prop := ∀ j, -1 ≤ H j ∧ H j ≤ 20
theorem HOk.start (a : Nat) : HOk (fun j => if j = a then 0 else -1) := fun j => by dsimp only; split <;> omega
theorem HOk.upd {H : Nat → Int} (o : HOk H) {j : Nat} {n : Int} (h1 : 0 ≤ n) (h2 : n ≤ 20) : HOk (updH H j n) := fun i => by
  unfold updH
  split
  · omega
  · exact o i
/-- A reading of code. -/
structure RdC (h : AH) (vA vB : Value) (c : Cod) : Prop where
  texts : RdV h vA 1 encTx c.texts
  list : RdV h vB 2 encN c.list
theorem RdC.pre {h h' : AH} {vA vB : Value} {c : Cod} (r : RdC h vA vB c) (p : Pre h h') : RdC h' vA vB c := ⟨r.texts.pre p, r.list.pre p⟩
end Go.Sim
namespace Go.Proofs.YtdlpdfclljnmhaaGreat
open Go Go.Sim Go.Proofs
set_option linter.unusedSimpArgs false
set_option linter.unusedVariables false
set_option maxRecDepth 100000
set_option maxHeartbeats 1000000
theorem isNamed_c (op : Int) (h : AH) : CD Tryz.prog 141 [.int .i64 op] h (.bool (named op)) h := by
  refine CD.quiet ?_ (low_bool _ _)
  unfold named
  refine CC.ofN Tryz.func141 Tryz.ntmps141 Tryz.results141 rfl (by decide) (by kernel_rfl) ?_
  simp (maxSteps := 1000000) -implicitDefEqProofs only [push_cast, seval]
  repeat' (first | with_reducible (first | exact Keep.refl _ _ | assumption | exact byte_lt _ _ | apply Keep.alloc | (refine Keep.set ?_ ?_; rotate_left; · omega) | apply Pre.alloc | apply Pre.set | exact Pre.refl _ | exact le_alloc _ | (refine Pre.keep ?_; assumption) | (refine Pre.n ?_; assumption)) | ((with_reducible (first | refine CD.to (within_c _ _ _ _) ?_ | refine CQ.pure (fun _ => within_c _ _ _ _) ?_ | refine bcase_d (fun hb => ?_) (fun hb => ?_) | refine bcase_mk (fun hb => ?_) (fun hb => ?_))) <;> try simp (maxSteps := 1000000) -implicitDefEqProofs only [push_cast, seval]) | with_reducible refine And.intro ?_ ?_ | omega | (simp only [alloc_n, set_n, kill_n]; omega) | (exfalso; omega))
  all_goals simp_all
theorem hasText_c (op : Int) (h : AH) : CD Tryz.prog 115 [.int .i64 op] h (.bool (texted op)) h := by
  refine CD.quiet ?_ (low_bool _ _)
  unfold texted
  refine CC.ofN Tryz.func115 Tryz.ntmps115 Tryz.results115 rfl (by decide) (by kernel_rfl) ?_
  simp (maxSteps := 1000000) -implicitDefEqProofs only [push_cast, seval]
  repeat' (first | with_reducible (first | exact Keep.refl _ _ | assumption | exact byte_lt _ _ | apply Keep.alloc | (refine Keep.set ?_ ?_; rotate_left; · omega) | apply Pre.alloc | apply Pre.set | exact Pre.refl _ | exact le_alloc _ | (refine Pre.keep ?_; assumption) | (refine Pre.n ?_; assumption)) | ((with_reducible (first | refine CD.to (isNamed_c _ _) ?_ | refine CQ.pure (fun _ => isNamed_c _ _) ?_ | refine bcase_d (fun hb => ?_) (fun hb => ?_) | refine bcase_mk (fun hb => ?_) (fun hb => ?_))) <;> try simp (maxSteps := 1000000) -implicitDefEqProofs only [push_cast, seval]) | with_reducible refine And.intro ?_ ?_ | omega | (simp only [alloc_n, set_n, kill_n]; omega) | (exfalso; omega))
  all_goals simp_all
theorem takesOf_c (x : Ins) (h : AH) : CD Tryz.prog 120 [.agg #[.int .i64 x.op, .int .i64 x.arg]] h (.int .i64 (takesP x)) h := by
  refine CD.quiet ?_ (low_int _ _ _)
  unfold takesP
  refine CC.ofN Tryz.func120 Tryz.ntmps120 Tryz.results120 rfl (by decide) (by kernel_rfl) ?_
  simp (maxSteps := 1000000) -implicitDefEqProofs only [push_cast, seval]
  repeat' (first | with_reducible (first | exact Keep.refl _ _ | assumption | exact byte_lt _ _ | apply Keep.alloc | (refine Keep.set ?_ ?_; rotate_left; · omega) | apply Pre.alloc | apply Pre.set | exact Pre.refl _ | exact le_alloc _ | (refine Pre.keep ?_; assumption) | (refine Pre.n ?_; assumption)) | ((with_reducible (first | refine bcase_d (fun hb => ?_) (fun hb => ?_) | refine bcase_mk (fun hb => ?_) (fun hb => ?_))) <;> try simp (maxSteps := 1000000) -implicitDefEqProofs only [push_cast, seval]) | with_reducible refine And.intro ?_ ?_ | omega | (simp only [alloc_n, set_n, kill_n]; omega) | (exfalso; omega))
  all_goals
    congr 1
    split
    · omega
    · split
      · omega
      · first | rfl | (split <;> omega) | omega
theorem flag_c (b : Bool) (h : AH) : CD Tryz.prog 143 [.bool b] h (.int .i64 (if b then 1 else 0)) h := by
  refine CD.quiet ?_ (low_int _ _ _)
  refine CC.ofN Tryz.func143 Tryz.ntmps143 Tryz.results143 rfl (by decide) (by kernel_rfl) ?_
  simp (maxSteps := 1000000) -implicitDefEqProofs only [push_cast, seval]
  cases b with
  | true =>
    simp (maxSteps := 1000000) -implicitDefEqProofs only [push_cast, seval]
    exact Keep.refl _ _
  | false =>
    simp (maxSteps := 1000000) -implicitDefEqProofs only [push_cast, seval]
    exact Keep.refl _ _
theorem putsOf_c (x : Ins) (h : AH) : CD Tryz.prog 121 [.agg #[.int .i64 x.op, .int .i64 x.arg]] h (.int .i64 (putsP x)) h := by
  refine CD.quiet ?_ (low_int _ _ _)
  unfold putsP
  refine CC.ofN Tryz.func121 Tryz.ntmps121 Tryz.results121 rfl (by decide) (by kernel_rfl) ?_
  simp (maxSteps := 1000000) -implicitDefEqProofs only [push_cast, seval]
  repeat' (first | with_reducible (first | exact Keep.refl _ _ | assumption | exact byte_lt _ _ | apply Keep.alloc | (refine Keep.set ?_ ?_; rotate_left; · omega) | apply Pre.alloc | apply Pre.set | exact Pre.refl _ | exact le_alloc _ | (refine Pre.keep ?_; assumption) | (refine Pre.n ?_; assumption)) | ((with_reducible (first | refine CD.to (within_c _ _ _ _) ?_ | refine CQ.pure (fun _ => within_c _ _ _ _) ?_ | refine CD.to (flag_c _ _) ?_ | refine CQ.pure (fun _ => flag_c _ _) ?_ | refine bcase_d (fun hb => ?_) (fun hb => ?_) | refine bcase_mk (fun hb => ?_) (fun hb => ?_))) <;> try simp (maxSteps := 1000000) -implicitDefEqProofs only [push_cast, seval]) | with_reducible refine And.intro ?_ ?_ | omega | (simp only [alloc_n, set_n, kill_n]; omega) | (exfalso; omega))
end Go.Proofs.YtdlpdfclljnmhaaGreat
namespace Go.Proofs.YtdlpdfclljnmhaaGreat
open Go Go.Sim Go.Proofs
set_option linter.unusedSimpArgs false
set_option linter.unusedVariables false
set_option maxRecDepth 100000
set_option maxHeartbeats 1000000
theorem getD_of {α : Type} (l : List α) (d : α) (i : Nat) (hi : i < l.length) : l.getD i d = l[i] := by simp [List.getD, hi]
theorem PatV.form {s : ByteArray} {v : Value} {h : AH} (p : PatV s v h) : ∃ rv, v = .tuple #[.agg #[rv], .bool (readP s).isSome] ∧ Sim.one rv = true ∧ rv.cells = #[rv] := by
  rcases p with ⟨e, rfl⟩ | ⟨rv, L, e, rfl, r⟩
  · exact ⟨_, by rw [e]; rfl, rfl, rfl⟩
  · exact ⟨rv, by rw [e]; rfl, r.r.one, rdv_cells r.r⟩
theorem argFits_c (c : Cod) (vA vB : Value) (at_ fin : Nat) (h : AH) (r : RdC h vA vB c) (ht : c.texts.length ≤ 60) (hsz : ∀ s ∈ c.texts, s.size ≤ 30) (hat : at_ < c.list.length) (hf : fin ≤ 250) (hl : c.list.length ≤ 250) (hok : insOk (c.list.getD at_ ⟨0, 0⟩) = true) :
    CD Tryz.prog 119 [.agg #[vA, vB, .int .i64 c.bgn, .int .i64 c.line, .int .i64 c.fin], .int .i64 (at_ : Nat), .int .i64 (fin : Nat)] h (.bool (argP c.texts (c.list.getD at_ ⟨0, 0⟩) at_ fin)) h := by
  refine CD.withBig (fun big => ?_)
  refine CD.quiet ?_ (low_bool _ _)
  have y1 := r.texts.one
  have y2 := rdv_cells r.texts
  have y3 := r.list.one
  have y4 := rdv_cells r.list
  obtain ⟨A, cA, rfl, hA⟩ := r.texts.rde (fun _ => rfl)
  obtain ⟨B, cB, rfl, hB⟩ := r.list.rde (fun _ => rfl)
  rw [getD_of _ _ _ hat] at hok ⊢
  generalize hx : c.list[at_] = x at hok
  simp only [insOk, inB, Bool.and_eq_true, decide_eq_true_eq] at hok
  obtain ⟨op, arg⟩ := x
  simp only at hok
  obtain ⟨k, rfl⟩ := Int.eq_ofNat_of_zero_le hok.2.1
  unfold argP
  simp only [Int.toNat_natCast]
  have p0 : Pre h (h.alloc (.cells [.slice A c.texts.length cA, .slice B c.list.length cB, .int .i64 c.bgn, .int .i64 c.line, .int .i64 c.fin] .solo h.n)) := (Pre.refl h).alloc _
  refine CC.ofN Tryz.func119 Tryz.ntmps119 Tryz.results119 rfl (by decide) (by kernel_rfl) ?_
  simp (maxSteps := 1000000) -implicitDefEqProofs only [push_cast, seval]
  with_reducible refine hB.use big p0 hat (fun id off eB hlt hr => ?_)
  subst eB
  rw [hx] at hr
  simp only [encN] at hr
  have r0 := (rd_2 hr).1
  have r1 := (rd_2 hr).2
  have pH : Pre h (((h.alloc (.cells [.slice A c.texts.length cA, .slice (some ⟨id, off, none⟩) c.list.length cB, .int .i64 c.bgn, .int .i64 c.line, .int .i64 c.fin] .solo h.n)).alloc (.cells [.int .i64 0, .int .i64 0] .solo (h.n + 1))).set (h.n + 1) (.cells [.int .i64 op, .int .i64 (k : Nat)] .solo (h.n + 1))) := (((Pre.refl h).alloc _).alloc _).set (by omega) _
  simp (maxSteps := 1000000) -implicitDefEqProofs only [push_cast, seval, hr, r0, r1, hlt]
  repeat (with_reducible refine And.intro ?_ ?_; · (first | omega | decide))
  with_reducible refine CD.to (hasText_c _ _) ?_
  have wa : IntKind.i64.wrap ((at_ : Int) + 1) = (at_ : Int) + 1 := by rw [w64 (by omega) (by omega)]
  cases htx : texted op with
  | true =>
    simp (maxSteps := 1000000) -implicitDefEqProofs only [push_cast, seval]
    rw [show IntKind.i64.wrap ((c.texts.length : Int) - 1) = (c.texts.length : Int) - 1 by rw [w64 (by omega) (by omega)]]
    with_reducible refine CD.to (within_c _ _ _ _) ?_
    cases hin : inB (k : Nat) 0 ((c.texts.length : Int) - 1) with
    | false =>
      simp only [inB, Bool.and_eq_false_iff, decide_eq_false_iff_not] at hin
      rw [show decide ((k : Int) < (c.texts.length : Int)) = false from decide_eq_false (by omega)]
      simp (maxSteps := 1000000) -implicitDefEqProofs only [push_cast, seval]
      exact pH.keep
    | true =>
      simp only [inB, Bool.and_eq_true, decide_eq_true_eq] at hin
      rw [show decide ((k : Int) < (c.texts.length : Int)) = true from decide_eq_true (by omega)]
      have hk' : k < c.texts.length := by omega
      have hs30 := hsz c.texts[k] (List.getElem_mem hk')
      rw [getD_of _ _ _ hk']
      generalize hT : c.texts[k] = T at *
      simp (maxSteps := 1000000) -implicitDefEqProofs only [push_cast, seval]
      with_reducible refine hA.use big pH hk' (fun id2 off2 eA hlt2 hr2 => ?_)
      subst eA
      rw [hT] at hr2
      simp only [encTx] at hr2
      have r2 := rd_1 hr2
      simp (maxSteps := 1000000) -implicitDefEqProofs only [push_cast, seval, hr2, r2, hlt2]
      repeat (with_reducible refine And.intro ?_ ?_; · (first | omega | decide))
      with_reducible refine CC.mono (ReadPattern_i T _ (by rw [maxLen_eq]; omega)) (fun v h3 hv => ?_)
      have p3 := hv.1
      with_reducible refine Exists.elim hv.2.form (fun rv hf => ?_)
      have ev := hf.1
      have z1 := hf.2.1
      have z2 := hf.2.2
      clear hf hv
      subst ev
      have n3 : h.n + 2 ≤ h3.n := p3.n
      have g0 : h3.ob h.n = _ := (p3.ob h.n (by show h.n < h.n + 2; omega)).trans (by (try simp (maxSteps := 1000000) -implicitDefEqProofs only [push_cast, seval, rdOb]); try rfl)
      have g1 : h3.ob (h.n + 1) = _ := (p3.ob (h.n + 1) (by show h.n + 1 < h.n + 2; omega)).trans (by (try simp (maxSteps := 1000000) -implicitDefEqProofs only [push_cast, seval, rdOb]); try rfl)
      have l0 : h.n < h3.n := by omega
      have l1 : h.n + 1 < h3.n := by omega
      have ho2 := p3.ob id2 hlt2
      have hr3 : rd h3 id2 (off2 + k * 1) 1 = some [.string T] := by rw [rd_eq, ho2, ← rd_eq]; exact hr2
      have r3 := rd_1 hr3
      have hlt3 : id2 < h3.n := Nat.lt_of_lt_of_le hlt2 p3.n
      have pF : Pre h ((h3.alloc (AOb.cells [Value.slice none 0 0] .solo h3.n)).set h3.n (AOb.cells [rv] .solo h3.n)) := ((pH.trans p3).alloc _).set (by omega) _
      simp (maxSteps := 1000000) -implicitDefEqProofs only [push_cast, seval, g0, rd_of g0, rd1_of g0, g1, rd_of g1, rd1_of g1, l0, l1, z1, z2]
      repeat' (first | with_reducible (first | exact Keep.refl _ _ | assumption | exact byte_lt _ _ | apply Keep.alloc | (refine Keep.set ?_ ?_; rotate_left; · omega) | apply Pre.alloc | apply Pre.set | exact Pre.refl _ | exact le_alloc _ | (refine Pre.keep ?_; assumption) | (refine Pre.n ?_; assumption)) | ((with_reducible (first | refine CD.to (isNamed_c _ _) ?_ | refine CQ.pure (fun _ => isNamed_c _ _) ?_ | refine CD.to (isLetters_c T ?_ _) ?_ | refine CQ.pure (fun _ => isLetters_c T ?_ _) ?_ | refine bcase_d (fun hb => ?_) (fun hb => ?_) | refine bcase_mk (fun hb => ?_) (fun hb => ?_))) <;> try simp (maxSteps := 1000000) -implicitDefEqProofs only [push_cast, seval, g0, rd_of g0, rd1_of g0, g1, rd_of g1, rd1_of g1, l0, l1, hr3, r3, hlt3]) | with_reducible refine And.intro ?_ ?_ | omega | (simp only [alloc_n, set_n, kill_n]; omega) | (exfalso; omega))
      all_goals first
        | (rw [maxLen_eq]; omega)
        | exact (pH.trans p3).keep
        | (congr 1; simp [*]; done)
        | (congr 1; grind)
  | false =>
    simp (maxSteps := 1000000) -implicitDefEqProofs only [push_cast, seval]
    repeat' (first | with_reducible (first | exact Keep.refl _ _ | assumption | exact byte_lt _ _ | apply Keep.alloc | (refine Keep.set ?_ ?_; rotate_left; · omega) | apply Pre.alloc | apply Pre.set | exact Pre.refl _ | exact le_alloc _ | (refine Pre.keep ?_; assumption) | (refine Pre.n ?_; assumption)) | ((with_reducible (first | refine CD.to (within_c _ _ _ _) ?_ | refine CQ.pure (fun _ => within_c _ _ _ _) ?_ | refine bcase_d (fun hb => ?_) (fun hb => ?_) | refine bcase_mk (fun hb => ?_) (fun hb => ?_))) <;> try simp (maxSteps := 1000000) -implicitDefEqProofs only [push_cast, seval, wa]) | with_reducible refine And.intro ?_ ?_ | omega | (simp only [alloc_n, set_n, kill_n]; omega) | (exfalso; omega))
    all_goals (congr 1; simp only [inB]; grind)
end Go.Proofs.YtdlpdfclljnmhaaGreat
namespace Go.Proofs.YtdlpdfclljnmhaaGreat
open Go Go.Sim Go.Proofs
set_option linter.unusedSimpArgs false
set_option linter.unusedVariables false
set_option maxRecDepth 100000
set_option maxHeartbeats 1000000
/-- Heights, laid down from a place on. -/
def hcs (H : Nat → Int) (a n : Nat) : List Value := (List.range n).map fun i => .int .i64 (H (a + i))
theorem hcs_len (H : Nat → Int) (a n : Nat) : (hcs H a n).length = n := by simp [hcs]
theorem hcs_get (H : Nat → Int) (a n i : Nat) (hi : i < n) : (hcs H a n)[i]? = some (.int .i64 (H (a + i))) := by simp [hcs, hi]
theorem hcs_set (H : Nat → Int) (a n i j : Nat) (x : Int) (hj : a + i = j) : (hcs H a n).set i (.int .i64 x) = hcs (updH H j x) a n := by
  apply List.ext_getElem?
  intro m
  rw [List.getElem?_set, hcs_len]
  by_cases hm : m < n
  · rw [hcs_get (updH H j x) a n m hm]
    by_cases e : i = m
    · subst e; rw [if_pos rfl, if_pos hm, updH, if_pos hj]
    · rw [if_neg e, hcs_get H a n m hm, updH, if_neg (by omega)]
  · rw [List.getElem?_eq_none (l := hcs (updH H j x) a n) (by rw [hcs_len]; omega), List.getElem?_eq_none (l := hcs H a n) (by rw [hcs_len]; omega)]
    split
    · rw [if_neg (by omega)]
    · rfl
theorem hcs_low (H : Nat → Int) (a n k : Nat) : ∀ v ∈ hcs H a n, Low k v := fun v hv => by
  simp only [hcs, List.mem_map] at hv
  obtain ⟨i, _, rfl⟩ := hv
  exact low_int _ _ _
theorem come_c (H : Nat → Int) (a n j q s7 s4 : Nat) (ht : Int) (h : AH) (eq : h.ob q = .cells (hcs H a n) .solo q) (e7 : h.ob s7 = .cells [.slice (some ⟨q, 0, none⟩) n 1] .solo s7) (e4 : h.ob s4 = .cells [.int .i64 (a : Nat)] .solo s4)
    (hq : q < h.n) (h7 : s7 < h.n) (h4 : s4 < h.n) (n7 : s7 ≠ q) (n4 : s4 ≠ q) (hj1 : a ≤ j) (hj2 : j < a + n) (hj3 : j ≤ 1000) :
    CD Tryz.prog 118 [.int .i64 (j : Nat), .int .i64 ht, .pointer (some ⟨s7, 0, none⟩), .pointer (some ⟨s4, 0, none⟩)] h (.bool ((decide (H j < 0) || decide (H j = ht)) && decide (ht ≤ 20))) (h.set q (.cells (hcs (updH H j ht) a n) .solo q)) := by
  refine CD.wrote hq ?_ (low_bool _ _) ?_
  · obtain ⟨i, hi⟩ : ∃ i, a + i = j := ⟨j - a, by omega⟩
    have wi : IntKind.i64.wrap ((j : Int) - (a : Nat)) = (i : Nat) := by rw [w64 (by omega) (by omega)]; omega
    have hg := hcs_get H a n i (by omega)
    rw [hi] at hg
    have hl := hcs_len H a n
    have hs := hcs_set H a n i j ht hi
    have hin : i < n := by omega
    refine CC.ofN Tryz.func118 Tryz.ntmps118 Tryz.results118 rfl (by decide) (by kernel_rfl) ?_
    simp (maxSteps := 1000000) -implicitDefEqProofs only [push_cast, seval, eq, rd_of eq, rd1_of eq, e7, rd_of e7, rd1_of e7, e4, rd_of e4, rd1_of e4, hq, h7, h4, n7, n4, wi, hg, hl, Nat.mul_one]
    repeat (with_reducible refine And.intro ?_ ?_; · (first | omega | decide))
    with_reducible refine bcase_d (fun hb => ?_) (fun hb => ?_)
    · simp (maxSteps := 1000000) -implicitDefEqProofs only [push_cast, seval, eq, rd_of eq, rd1_of eq, e7, rd_of e7, rd1_of e7, e4, rd_of e4, rd1_of e4, hq, h7, h4, n7, n4, wi, hg, hl, hs, hin, Nat.mul_one]
      exact ⟨by omega, by omega, by omega, by rw [decide_eq_true hb]; rfl, Keep.refl _ _⟩
    · simp (maxSteps := 1000000) -implicitDefEqProofs only [push_cast, seval, eq, rd_of eq, rd1_of eq, e7, rd_of e7, rd1_of e7, e4, rd_of e4, rd1_of e4, hq, h7, h4, n7, n4, wi, hg, hl, hs, hin, Nat.mul_one]
      repeat (with_reducible refine And.intro ?_ ?_; · (first | omega | decide))
      have hf : decide (H j < 0) = false := decide_eq_false hb
      with_reducible refine bcase_d (fun hb2 => ?_) (fun hb2 => ?_)
      · simp (maxSteps := 1000000) -implicitDefEqProofs only [push_cast, seval, eq, rd_of eq, rd1_of eq, e7, rd_of e7, rd1_of e7, e4, rd_of e4, rd1_of e4, hq, h7, h4, n7, n4, wi, hg, hl, hs, hin, Nat.mul_one]
        repeat (with_reducible refine And.intro ?_ ?_; · (first | omega | decide))
        exact ⟨by rw [hf, decide_eq_true hb2]; rfl, Keep.refl _ _⟩
      · simp (maxSteps := 1000000) -implicitDefEqProofs only [push_cast, seval, eq, rd_of eq, rd1_of eq, e7, rd_of e7, rd1_of e7, e4, rd_of e4, rd1_of e4, hq, h7, h4, n7, n4, wi, hg, hl, hs, hin, Nat.mul_one]
        repeat (with_reducible refine And.intro ?_ ?_; · (first | omega | decide))
        exact ⟨by rw [hf, decide_eq_false hb2]; rfl, Keep.refl _ _⟩
  · exact hcs_low _ _ _ _
theorem hcs_start (a n : Nat) (hn : 0 < n) : (List.replicate n (Value.int .i64 (-1))).set 0 (.int .i64 0) = hcs (fun j => if j = a then 0 else -1) a n := by
  have : List.replicate n (Value.int .i64 (-1)) = hcs (fun _ => -1) a n := by
    apply List.ext_getElem?
    intro m
    by_cases hm : m < n
    · rw [hcs_get _ _ _ _ hm, List.getElem?_replicate, if_pos hm]
    · rw [List.getElem?_eq_none (by simp; omega), List.getElem?_eq_none (by rw [hcs_len]; omega)]
  rw [this, hcs_set _ a n 0 a 0 rfl]
  congr 1
/-- A jump goes on. -/
def jumpA (X : Ins) (k b : Nat) : Prop := X.op = 21 ∨ X.op = 22 → ∃ m : Nat, X.arg = (m : Nat) ∧ k < m ∧ m ≤ b
theorem jumpA.get {X : Ins} {k b : Nat} (j : jumpA X k b) (h : X.op = 21 ∨ X.op = 22) : ∃ m : Nat, X.arg = (m : Nat) ∧ k < m ∧ m ≤ b := j h
theorem come_yes {x N : Int} (hN : N ≤ 20) (h : ¬ (0 ≤ x ∧ x ≠ N)) : ((decide (x < 0) || decide (x = N)) && decide (N ≤ 20)) = true := by
  simp only [Bool.and_eq_true, Bool.or_eq_true, decide_eq_true_eq]; omega
theorem come_no {x N : Int} (h : (0 ≤ x ∧ x ≠ N) ∨ 20 < N) : ((decide (x < 0) || decide (x = N)) && decide (N ≤ 20)) = false := by
  simp only [Bool.and_eq_false_iff, Bool.or_eq_false_iff, decide_eq_false_iff_not]; omega
theorem comeP_yes {H : Nat → Int} {j : Nat} {N : Int} (h : ¬ (0 ≤ H j ∧ H j ≠ N)) : comeP H j N = some (updH H j N) := if_neg h
theorem comeP_no {H : Nat → Int} {j : Nat} {N : Int} (h : 0 ≤ H j ∧ H j ≠ N) : comeP H j N = none := if_pos h
theorem partFits_c (c : Cod) (vA vB : Value) (a b : Nat) (h : AH) (r : RdC h vA vB c) (ht : c.texts.length ≤ 60) (hsz : ∀ s ∈ c.texts, s.size ≤ 30) (hab : a ≤ b) (hbl : b ≤ c.list.length) (hl : c.list.length ≤ 250) (hok : ∀ j, j < c.list.length → insOk (c.list.getD j ⟨0, 0⟩) = true) :
    CD Tryz.prog 80 [.agg #[vA, vB, .int .i64 c.bgn, .int .i64 c.line, .int .i64 c.fin], .int .i64 (a : Nat), .int .i64 (b : Nat)] h (.bool (partP c.texts c.list a b)) h := by
  refine CD.withBig (fun big => ?_)
  refine CD.quiet ?_ (low_bool _ _)
  have y1 := r.texts.one
  have y2 := rdv_cells r.texts
  have y3 := r.list.one
  have y4 := rdv_cells r.list
  obtain ⟨B, cB, rfl, hLst⟩ := r.list.rde (fun _ => rfl)
  obtain ⟨n, hn⟩ : ∃ n, n = b - a + 1 := ⟨_, rfl⟩
  have wn : IntKind.i64.wrap (IntKind.i64.wrap ((b : Int) - (a : Nat)) + 1) = (n : Nat) := by rw [w64 (show -9223372036854775808 ≤ (b : Int) - a by omega) (by omega), w64 (by omega) (by omega)]; omega
  have wba : IntKind.i64.wrap ((b : Int) - (a : Nat)) = ((b - a : Nat) : Int) := by rw [w64 (by omega) (by omega)]; omega
  refine CC.ofN Tryz.func80 Tryz.ntmps80 Tryz.results80 rfl (by decide) (by kernel_rfl) ?_
  simp (maxSteps := 1000000) -implicitDefEqProofs only [push_cast, seval, wn, y1, y2, y3, y4]
  have p0 : Pre h (((h.alloc (AOb.cells [vA, .slice B c.list.length cB, .int .i64 c.bgn, .int .i64 c.line, .int .i64 c.fin] .solo h.n)).alloc (AOb.cells [.int .i64 (a : Nat)] .solo (h.n + 1))).alloc (AOb.cells [.int .i64 (-1)] .solo (h.n + 2))) := (((Pre.refl h).alloc _).alloc _).alloc _
  have hRp := Repeat_c (h.n + 2) (.int .i64 (-1)) n (((h.alloc (AOb.cells [vA, .slice B c.list.length cB, .int .i64 c.bgn, .int .i64 c.line, .int .i64 c.fin] .solo h.n)).alloc (AOb.cells [.int .i64 (a : Nat)] .solo (h.n + 1))).alloc (AOb.cells [.int .i64 (-1)] .solo (h.n + 2))) (by exact rd_alloc_same _ 0 1) (Nat.lt_succ_self _) (by omega) (by omega)
  have c3 : (((h.alloc (AOb.cells [vA, .slice B c.list.length cB, .int .i64 c.bgn, .int .i64 c.line, .int .i64 c.fin] .solo h.n)).alloc (AOb.cells [.int .i64 (a : Nat)] .solo (h.n + 1))).alloc (AOb.cells [.int .i64 (-1)] .solo (h.n + 2))).ob h.n = AOb.cells [vA, .slice B c.list.length cB, .int .i64 c.bgn, .int .i64 c.line, .int .i64 c.fin] .solo h.n := (by (try simp (maxSteps := 1000000) -implicitDefEqProofs only [push_cast, seval, rdOb]); try rfl)
  have c4 : (((h.alloc (AOb.cells [vA, .slice B c.list.length cB, .int .i64 c.bgn, .int .i64 c.line, .int .i64 c.fin] .solo h.n)).alloc (AOb.cells [.int .i64 (a : Nat)] .solo (h.n + 1))).alloc (AOb.cells [.int .i64 (-1)] .solo (h.n + 2))).ob (h.n + 1) = AOb.cells [.int .i64 (a : Nat)] .solo (h.n + 1) := (by (try simp (maxSteps := 1000000) -implicitDefEqProofs only [push_cast, seval, rdOb]); try rfl)
  have hn3 : (((h.alloc (AOb.cells [vA, .slice B c.list.length cB, .int .i64 c.bgn, .int .i64 c.line, .int .i64 c.fin] .solo h.n)).alloc (AOb.cells [.int .i64 (a : Nat)] .solo (h.n + 1))).alloc (AOb.cells [.int .i64 (-1)] .solo (h.n + 2))).n = h.n + 3 := rfl
  generalize ((h.alloc (AOb.cells [vA, .slice B c.list.length cB, .int .i64 c.bgn, .int .i64 c.line, .int .i64 c.fin] .solo h.n)).alloc (AOb.cells [.int .i64 (a : Nat)] .solo (h.n + 1))).alloc (AOb.cells [.int .i64 (-1)] .solo (h.n + 2)) = H0 at *
  with_reducible refine CC.mono hRp (fun v h1 hv => ?_)
  clear hRp
  with_reducible refine Exists.elim hv (fun q hw => ?_)
  have q1 := hw.1
  have q2 := hw.2.1
  have ev := hw.2.2.1
  have eq1 := hw.2.2.2.1
  have p1 := hw.2.2.2.2
  clear hw hv
  subst ev
  have n1 := p1.n
  have d3 : h1.ob h.n = _ := (p1.ob _ (by omega)).trans c3
  have d4 : h1.ob (h.n + 1) = _ := (p1.ob _ (by omega)).trans c4
  have l3 : h.n < h1.n := by omega
  have l4 : h.n + 1 < h1.n := by omega
  have lr : (List.replicate n (Value.int .i64 (-1))).length = n := List.length_replicate
  have hn0 : 0 < n := by omega
  have hst := hcs_start a n hn0
  simp (maxSteps := 1000000) -implicitDefEqProofs only [push_cast, seval, d3, rd_of d3, rd1_of d3, d4, rd_of d4, rd1_of d4, l3, l4, eq1, rd_of eq1, rd1_of eq1, q2, lr, hn0, List.map_toArray, List.map_cons, List.map_nil]
  repeat (with_reducible refine And.intro ?_ ?_; · (first | omega | decide))
  rw [hst]
  obtain ⟨hB, ehB⟩ : ∃ hB, hB = (((h1.alloc (AOb.cells [.slice none 0 0] .solo h1.n)).set h1.n (AOb.cells [.slice (some ⟨q, 0, none⟩) n 1] .solo h1.n)).set q (AOb.cells (hcs (fun j => if j = a then 0 else -1) a n) .solo q)) := ⟨_, rfl⟩
  have oB : ∀ i, i < h1.n → i ≠ q → hB.ob i = h1.ob i := fun i hi hiq => by rw [ehB, set_ne _ hiq, set_ne _ (by omega), alloc_lt _ hi]
  have bq : hB.ob q = AOb.cells (hcs (fun j => if j = a then 0 else -1) a n) .solo q := by rw [ehB]; exact set_same _ _
  have b7 : hB.ob h1.n = AOb.cells [.slice (some ⟨q, 0, none⟩) n 1] .solo h1.n := by rw [ehB, set_ne _ (by omega)]; exact set_same _ _
  have nB : hB.n = h1.n + 1 := by rw [ehB]; rfl
  rw [← ehB]
  clear ehB
  have b3 := (oB h.n l3 (by omega)).trans d3
  have b4 := (oB (h.n + 1) l4 (by omega)).trans d4
  have pB : Pre h hB := ⟨by omega, fun i hi => (oB i (by omega) (by omega)).trans ((p1.ob i (by omega)).trans (p0.ob i hi))⟩
  have k3 : h.n < hB.n := by omega
  have k4 : h.n + 1 < hB.n := by omega
  have k7 : h1.n < hB.n := by omega
  have kq : q < hB.n := by omega
  generalize hs7 : h1.n = s7 at *
  have n7q : s7 ≠ q := by omega
  clear d3 d4 oB eq1 hst lr
  simp (maxSteps := 1000000) -implicitDefEqProofs only [push_cast, seval, b3, rd_of b3, rd1_of b3, b4, rd_of b4, rd1_of b4, k3, k4, List.map_toArray, List.map_cons, List.map_nil]
  unfold partP
  generalize hres : partL c.texts c.list b (b - a) a (fun j => if j = a then 0 else -1) = res
  refine WC.loopA (by kernel_rfl) [9] [6, 10, 11, 12, 23, 24, 25, 26, 27, 28, 29, 30, 31, 32, 33, 34, 35, 36, 37, 38, 39, 40, 41, 42, 43, 44, 45, 46, 47, 48, 49, 50, 51, 52, 53, 54, 55, 56, 57, 58, 59, 60, 61, 62, 63, 64, 65, 66, 67, 68, 69, 70, 71, 72, 73, 74, 75, 76, 77, 78, 79, 80, 81, 82, 83, 84, 85, 86, 87, 88, 89, 90] (fun s : Nat × (Nat → Int) => [.int .i64 (s.1 : Nat)]) (fun s h' => (a ≤ s.1 ∧ s.1 ≤ b ∧ HOk s.2 ∧ partL c.texts c.list b (b - s.1) s.1 s.2 = res) ∧ hB.n ≤ h'.n ∧ (∀ i, i < hB.n → i ≠ q → h'.ob i = hB.ob i) ∧ h'.ob q = .cells (hcs s.2 a n) .solo q) (fun s => b - s.1) (a, (fun j => if j = a then 0 else -1)) (by kernel_rfl) ⟨⟨Nat.le_refl _, hab, HOk.start a, hres⟩, Nat.le_refl _, fun _ _ _ => rfl, bq⟩ ?_
  clear bq hres
  intro s g h2 hJ
  have hs1 := hJ.1.1
  have hs2 := hJ.1.2.1
  have hO := hJ.1.2.2.1
  have hP := hJ.1.2.2.2
  have n2 := hJ.2.1
  have f2 := hJ.2.2.1
  have g2 := hJ.2.2.2
  clear hJ
  have e3 := (f2 h.n k3 (by omega)).trans b3
  have e4 := (f2 (h.n + 1) k4 (by omega)).trans b4
  have e7 := (f2 s7 k7 n7q).trans b7
  have m3 : h.n < h2.n := by omega
  have m4 : h.n + 1 < h2.n := by omega
  have m7 : s7 < h2.n := by omega
  have mq : q < h2.n := by omega
  have pre2 : Pre h h2 := ⟨by omega, fun i hi => (f2 i (by omega) (by omega)).trans (pB.ob i hi)⟩
  simp (maxSteps := 1000000) -implicitDefEqProofs only [push_cast, seval, e3, rd_of e3, rd1_of e3, e4, rd_of e4, rd1_of e4, e7, rd_of e7, rd1_of e7, m3, m4, m7]
  with_reducible refine bcase_d (fun hb => ?_) (fun hb => ?_)
  · have hk : s.1 < b := by omega
    have hki : s.1 < c.list.length := by omega
    obtain ⟨g0, hg0⟩ : ∃ g0, b - s.1 = g0 + 1 := ⟨b - s.1 - 1, by omega⟩
    rw [hg0, partL] at hP
    have hok1 := hok s.1 hki
    have hgD := getD_of c.list ⟨0, 0⟩ s.1 hki
    have hAF := fun (h3 : AH) (p : Pre h h3) => argFits_c c vA _ s.1 b h3 (r.pre p) ht hsz hki (by omega) hl hok1
    rw [hok1, Bool.true_and] at hP
    generalize hX : c.list.getD s.1 ⟨0, 0⟩ = X at *
    have wka : IntKind.i64.wrap ((s.1 : Int) - (a : Nat)) = ((s.1 - a : Nat) : Int) := by rw [w64 (by omega) (by omega)]; omega
    have hg := hcs_get s.2 a n (s.1 - a) (by omega)
    rw [show a + (s.1 - a) = s.1 by omega] at hg
    obtain ⟨k1, ek1⟩ : ∃ k1, k1 = s.1 + 1 := ⟨_, rfl⟩
    have w1 : IntKind.i64.wrap ((s.1 : Int) + 1) = (k1 : Int) := by rw [wrapSucc (by omega), ek1]
    rw [← ek1] at hP
    with_reducible refine hLst.use big pre2 hki (fun id off eB hlt hr => ?_)
    subst eB
    rw [← hgD] at hr
    simp only [encN] at hr
    have r0 := (rd_2 hr).1
    have r1 := (rd_2 hr).2
    simp (maxSteps := 1000000) -implicitDefEqProofs only [push_cast, seval, e3, rd_of e3, rd1_of e3, e4, rd_of e4, rd1_of e4, e7, rd_of e7, rd1_of e7, m3, m4, m7, hr, r0, r1, hlt]
    repeat (with_reducible refine And.intro ?_ ?_; · (first | omega | decide))
    have p3 : Pre h2 ((h2.alloc (AOb.cells [Value.int IntKind.i64 0, Value.int IntKind.i64 0] .solo h2.n)).set h2.n (AOb.cells [Value.int IntKind.i64 X.op, Value.int IntKind.i64 X.arg] .solo h2.n)) := ((Pre.refl h2).alloc _).set (Nat.le_refl _) _
    have x3 : ((h2.alloc (AOb.cells [Value.int IntKind.i64 0, Value.int IntKind.i64 0] .solo h2.n)).set h2.n (AOb.cells [Value.int IntKind.i64 X.op, Value.int IntKind.i64 X.arg] .solo h2.n)).ob h2.n = AOb.cells [Value.int IntKind.i64 X.op, Value.int IntKind.i64 X.arg] .solo h2.n := set_same _ _
    have nx : ((h2.alloc (AOb.cells [Value.int IntKind.i64 0, Value.int IntKind.i64 0] .solo h2.n)).set h2.n (AOb.cells [Value.int IntKind.i64 X.op, Value.int IntKind.i64 X.arg] .solo h2.n)).n = h2.n + 1 := rfl
    generalize (h2.alloc (AOb.cells [Value.int IntKind.i64 0, Value.int IntKind.i64 0] .solo h2.n)).set h2.n (AOb.cells [Value.int IntKind.i64 X.op, Value.int IntKind.i64 X.arg] .solo h2.n) = h3 at *
    have e43 : h3.ob (h.n + 1) = _ := (p3.ob _ m4).trans e4
    have e73 : h3.ob s7 = _ := (p3.ob _ m7).trans e7
    have g3 : h3.ob q = _ := (p3.ob _ mq).trans g2
    have f3 : ∀ i, i < hB.n → i ≠ q → h3.ob i = hB.ob i := fun i hi hiq => (p3.ob i (by omega)).trans (f2 i hi hiq)
    have pre3 := pre2.trans p3
    have m43 : h.n + 1 < h3.n := by omega
    have m73 : s7 < h3.n := by omega
    have mq3 : q < h3.n := by omega
    have mx3 : h2.n < h3.n := by omega
    with_reducible refine CD.to (hAF h3 pre3) ?_
    clear hAF e3 e4 e7 g2 f2 hr r0 r1 p3
    cases hAP : argP c.texts X s.1 b with
    | false =>
      rw [hAP] at hP
      simp (maxSteps := 1000000) -implicitDefEqProofs only [push_cast, seval]
      exact ⟨by rw [← hP]; rfl, pre3.keep⟩
    | true =>
    rw [hAP, if_pos rfl] at hP
    simp (maxSteps := 1000000) -implicitDefEqProofs only [push_cast, seval, e43, rd_of e43, rd1_of e43, e73, rd_of e73, rd1_of e73, m43, m73, mq3, mx3, x3, rd_of x3, rd1_of x3, g3, rd_of g3, rd1_of g3, wka, Nat.mul_one, hg]
    repeat (with_reducible refine And.intro ?_ ?_; · (first | omega | decide))
    with_reducible refine bcase_d (fun hb2 => ?_) (fun hb2 => ?_)
    · rw [stepP, if_pos hb2] at hP
      simp (maxSteps := 1000000) -implicitDefEqProofs only [push_cast, seval, w1]
      exact ⟨(k1, s.2), by kernel_rfl, ⟨⟨by show a ≤ k1; omega, by show k1 ≤ b; omega, hO, by show partL c.texts c.list b (b - k1) k1 s.2 = res; rw [show b - k1 = g0 by omega]; exact hP⟩, by omega, f3, g3⟩, by show b - k1 < b - s.1; omega⟩
    · have hOk := hO s.1
      have hT := takesP_range hok1
      have hU := putsP_range X
      have w2 : IntKind.i64.wrap (s.2 s.1 - takesP X) = s.2 s.1 - takesP X := by rw [w64 (by omega) (by omega)]
      have w3 : IntKind.i64.wrap (s.2 s.1 - takesP X + putsP X) = s.2 s.1 - takesP X + putsP X := by rw [w64 (by omega) (by omega)]
      rw [stepP, if_neg hb2] at hP
      simp (maxSteps := 1000000) -implicitDefEqProofs only [push_cast, seval, e43, rd_of e43, rd1_of e43, e73, rd_of e73, rd1_of e73, m43, m73, mq3, mx3, x3, rd_of x3, rd1_of x3, g3, rd_of g3, rd1_of g3, wka, Nat.mul_one, hg]
      refine WC.draw' (by kernel_rfl) (by kernel_rfl) (.q 0 (.q 1 (.q 4 (.c 2 (.q 3 (.c 5 (.q 6 (.q 7 (.done))))))))) (by kernel_rfl) ?_
      simp (maxSteps := 1000000) -implicitDefEqProofs only [push_cast, seval, e43, rd_of e43, rd1_of e43, e73, rd_of e73, rd1_of e73, m43, m73, mq3, mx3, x3, rd_of x3, rd1_of x3, g3, rd_of g3, rd1_of g3]
      refine CQ.pure (fun h' => takesOf_c X h') ?_
      simp (maxSteps := 1000000) -implicitDefEqProofs only [push_cast, seval, e43, rd_of e43, rd1_of e43, e73, rd_of e73, rd1_of e73, m43, m73, mq3, mx3, x3, rd_of x3, rd1_of x3, g3, rd_of g3, rd1_of g3]
      refine CQ.pure (fun h' => putsOf_c X h') ?_
      simp (maxSteps := 1000000) -implicitDefEqProofs only [push_cast, seval, e43, rd_of e43, rd1_of e43, e73, rd_of e73, rd1_of e73, m43, m73, mq3, mx3, x3, rd_of x3, rd1_of x3, g3, rd_of g3, rd1_of g3, w2, w3]
      generalize hN : s.2 s.1 - takesP X + putsP X = N at *
      with_reducible refine CD.to (takesOf_c X _) ?_
      simp (maxSteps := 1000000) -implicitDefEqProofs only [push_cast, seval, e43, rd_of e43, rd1_of e43, e73, rd_of e73, rd1_of e73, m43, m73, mq3, mx3, x3, rd_of x3, rd1_of x3, g3, rd_of g3, rd1_of g3]
      with_reducible refine bcase_d (fun hb3 => ?_) (fun hb3 => ?_)
      · rw [if_pos (.inl hb3)] at hP
        simp (maxSteps := 1000000) -implicitDefEqProofs only [push_cast, seval, e43, rd_of e43, rd1_of e43, e73, rd_of e73, rd1_of e73, m43, m73, mq3, mx3, x3, rd_of x3, rd1_of x3, g3, rd_of g3, rd1_of g3]
        exact ⟨by rw [← hP], pre3.keep⟩
      simp (maxSteps := 1000000) -implicitDefEqProofs only [push_cast, seval, e43, rd_of e43, rd1_of e43, e73, rd_of e73, rd1_of e73, m43, m73, mq3, mx3, x3, rd_of x3, rd1_of x3, g3, rd_of g3, rd1_of g3]
      have wk1 : IntKind.i64.wrap ((s.1 : Int) + 1) = (k1 : Int) := w1
      have hx21 : jumpA X s.1 b := fun hx => by
        unfold argP at hAP
        have htx : texted X.op = false := by unfold texted named inB; rcases hx with hx | hx <;> rw [hx] <;> rfl
        rw [htx, if_neg (by decide), if_neg (by omega), if_pos hx, Bool.and_eq_true, decide_eq_true_eq, decide_eq_true_eq] at hAP
        exact ⟨X.arg.toNat, by omega, by omega, by omega⟩
      with_reducible refine bcase_d (fun hb4 => ?_) (fun hb4 => ?_)
      · have eN : takesP X = 0 ∧ putsP X = 0 := by
          unfold takesP putsP inB; rw [hb4]; exact ⟨rfl, rfl⟩
        rw [if_neg (by omega), if_neg (by omega)] at hP
        simp only at hP
        rw [if_neg (by omega)] at hP
        have z21 : (X.op = 21) = False := eq_false (by omega)
        have z22 : (X.op = 22) = False := eq_false (by omega)
        simp (maxSteps := 1000000) -implicitDefEqProofs only [push_cast, seval, e43, rd_of e43, rd1_of e43, e73, rd_of e73, rd1_of e73, m43, m73, mq3, mx3, x3, rd_of x3, rd1_of x3, g3, rd_of g3, rd1_of g3, z21, z22, w1]
        exact ⟨(k1, s.2), by kernel_rfl, ⟨⟨by show a ≤ k1; omega, by show k1 ≤ b; omega, hO, by show partL c.texts c.list b (b - k1) k1 _ = res; rw [show b - k1 = g0 by omega]; exact hP⟩, by omega, f3, rfl⟩, by show b - k1 < b - s.1; omega⟩
      simp (maxSteps := 1000000) -implicitDefEqProofs only [push_cast, seval, e43, rd_of e43, rd1_of e43, e73, rd_of e73, rd1_of e73, m43, m73, mq3, mx3, x3, rd_of x3, rd1_of x3, g3, rd_of g3, rd1_of g3]
      with_reducible refine bcase_d (fun hb5 => ?_) (fun hb5 => ?_)
      · simp (maxSteps := 1000000) -implicitDefEqProofs only [push_cast, seval, e43, rd_of e43, rd1_of e43, e73, rd_of e73, rd1_of e73, m43, m73, mq3, mx3, x3, rd_of x3, rd1_of x3, g3, rd_of g3, rd1_of g3]
        have eN : takesP X = 0 ∧ putsP X = 0 := by
          unfold takesP putsP inB; rw [hb5]; exact ⟨rfl, rfl⟩
        rw [if_neg (by omega), if_neg (by omega)] at hP
        simp only at hP
        rw [if_pos (.inr hb5)] at hP
        with_reducible refine Exists.elim (hx21.get (.inr hb5)) (fun m hm => ?_)
        have hm1 := hm.1
        have hm2 := hm.2.1
        have hm3 := hm.2.2
        rw [hm1, Int.toNat_natCast] at hP
        have z21 : (X.op = 21) = False := eq_false (by omega)
        have hC := come_c s.2 a n m q s7 (h.n + 1) N h3 g3 e73 e43 mq3 m73 m43 n7q (by omega) (by omega) (by omega) (by omega)
        have hO0 := hO s.1
        with_reducible refine (Classical.em (0 ≤ s.2 m ∧ s.2 m ≠ N)).elim (fun hc => ?_) (fun hc => ?_)
        · rw [comeP_no hc] at hP
          rw [come_no (.inl hc)] at hC
          simp (maxSteps := 1000000) -implicitDefEqProofs only [push_cast, seval, e43, rd_of e43, rd1_of e43, e73, rd_of e73, rd1_of e73, m43, m73, mq3, mx3, x3, rd_of x3, rd1_of x3, g3, rd_of g3, rd1_of g3, z21, hb5, hm1]
          with_reducible refine CD.to hC ?_
          simp (maxSteps := 1000000) -implicitDefEqProofs only [push_cast, seval]
          exact ⟨by rw [← hP], fun i hi => (set_ne _ (by omega)).trans (pre3.ob i hi)⟩
        · rw [comeP_yes hc] at hP
          rw [come_yes (by omega) hc] at hC
          simp (maxSteps := 1000000) -implicitDefEqProofs only [push_cast, seval, e43, rd_of e43, rd1_of e43, e73, rd_of e73, rd1_of e73, m43, m73, mq3, mx3, x3, rd_of x3, rd1_of x3, g3, rd_of g3, rd1_of g3, z21, hb5, hm1]
          with_reducible refine CD.to hC ?_
          simp (maxSteps := 1000000) -implicitDefEqProofs only [push_cast, seval, w1]
          exact ⟨(k1, updH s.2 m N), by kernel_rfl, ⟨⟨by show a ≤ k1; omega, by show k1 ≤ b; omega, hO.upd (by omega) (by omega), by show partL c.texts c.list b (b - k1) k1 _ = res; rw [show b - k1 = g0 by omega]; exact hP⟩, by show hB.n ≤ h3.n; omega, fun i hi hiq => (set_ne _ hiq).trans (f3 i hi hiq), rfl⟩, by show b - k1 < b - s.1; omega⟩
      simp (maxSteps := 1000000) -implicitDefEqProofs only [push_cast, seval, e43, rd_of e43, rd1_of e43, e73, rd_of e73, rd1_of e73, m43, m73, mq3, mx3, x3, rd_of x3, rd1_of x3, g3, rd_of g3, rd1_of g3]
      rw [wk1]
      have hC := come_c s.2 a n k1 q s7 (h.n + 1) N h3 g3 e73 e43 mq3 m73 m43 n7q (by omega) (by omega) (by omega) (by omega)
      have hO0 := hO s.1
      with_reducible refine (Classical.em (20 < N)).elim (fun hN => ?_) (fun hN => ?_)
      · rw [if_pos (.inr hN)] at hP
        rw [come_no (.inr hN)] at hC
        with_reducible refine CD.to hC ?_
        simp (maxSteps := 1000000) -implicitDefEqProofs only [push_cast, seval]
        exact ⟨by rw [← hP], fun i hi => (set_ne _ (by omega)).trans (pre3.ob i hi)⟩
      rw [if_neg (by omega), if_pos ⟨hb4, hb5⟩, ← ek1] at hP
      with_reducible refine (Classical.em (0 ≤ s.2 k1 ∧ s.2 k1 ≠ N)).elim (fun hc => ?_) (fun hc => ?_)
      · rw [comeP_no hc] at hP
        rw [come_no (.inl hc)] at hC
        with_reducible refine CD.to hC ?_
        simp (maxSteps := 1000000) -implicitDefEqProofs only [push_cast, seval]
        exact ⟨by rw [← hP], fun i hi => (set_ne _ (by omega)).trans (pre3.ob i hi)⟩
      rw [comeP_yes hc] at hP
      simp only at hP
      rw [come_yes (by omega) hc] at hC
      have hO4 := hO.upd (j := k1) (n := N) (by omega) (by omega)
      with_reducible refine CD.to hC ?_
      clear hC
      have x4 : (h3.set q (.cells (hcs (updH s.2 k1 N) a n) .solo q)).ob h2.n = _ := (set_ne _ (by omega)).trans x3
      have e44 : (h3.set q (.cells (hcs (updH s.2 k1 N) a n) .solo q)).ob (h.n + 1) = _ := (set_ne _ (by omega)).trans e43
      have e74 : (h3.set q (.cells (hcs (updH s.2 k1 N) a n) .solo q)).ob s7 = _ := (set_ne _ n7q).trans e73
      have g4 : (h3.set q (.cells (hcs (updH s.2 k1 N) a n) .solo q)).ob q = _ := set_same _ _
      have f4 : ∀ i, i < hB.n → i ≠ q → (h3.set q (.cells (hcs (updH s.2 k1 N) a n) .solo q)).ob i = hB.ob i := fun i hi hiq => (set_ne _ hiq).trans (f3 i hi hiq)
      have pre4 : ∀ i, i < h.n → (h3.set q (.cells (hcs (updH s.2 k1 N) a n) .solo q)).ob i = h.ob i := fun i hi => (set_ne _ (by omega)).trans (pre3.ob i hi)
      have nn4 : (h3.set q (.cells (hcs (updH s.2 k1 N) a n) .solo q)).n = h3.n := rfl
      generalize h3.set q (.cells (hcs (updH s.2 k1 N) a n) .solo q) = h4 at *
      generalize updH s.2 k1 N = H4 at *
      clear x3 e43 e73 g3 f3 pre3
      have m44 : h.n + 1 < h4.n := by omega
      have m74 : s7 < h4.n := by omega
      have mq4 : q < h4.n := by omega
      have mx4 : h2.n < h4.n := by omega
      simp (maxSteps := 1000000) -implicitDefEqProofs only [push_cast, seval, x4, rd_of x4, rd1_of x4, mx4]
      with_reducible refine bcase_d (fun hb6 => ?_) (fun hb6 => ?_)
      · rw [if_pos (.inl hb6)] at hP
        with_reducible refine Exists.elim (hx21.get (.inl hb6)) (fun m hm => ?_)
        have hm1 := hm.1
        have hm2 := hm.2.1
        have hm3 := hm.2.2
        rw [hm1, Int.toNat_natCast] at hP
        have hC := come_c H4 a n m q s7 (h.n + 1) N h4 g4 e74 e44 mq4 m74 m44 n7q (by omega) (by omega) (by omega) (by omega)
        with_reducible refine (Classical.em (0 ≤ H4 m ∧ H4 m ≠ N)).elim (fun hc => ?_) (fun hc => ?_)
        · rw [comeP_no hc] at hP
          rw [come_no (.inl hc)] at hC
          simp (maxSteps := 1000000) -implicitDefEqProofs only [push_cast, seval, x4, rd_of x4, rd1_of x4, mx4, hm1]
          with_reducible refine CD.to hC ?_
          simp (maxSteps := 1000000) -implicitDefEqProofs only [push_cast, seval]
          exact ⟨by rw [← hP], fun i hi => (set_ne _ (by omega)).trans (pre4 i hi)⟩
        · rw [comeP_yes hc] at hP
          rw [come_yes (by omega) hc] at hC
          simp (maxSteps := 1000000) -implicitDefEqProofs only [push_cast, seval, x4, rd_of x4, rd1_of x4, mx4, hm1]
          with_reducible refine CD.to hC ?_
          simp (maxSteps := 1000000) -implicitDefEqProofs only [push_cast, seval, w1]
          exact ⟨(k1, updH H4 m N), by kernel_rfl, ⟨⟨by show a ≤ k1; omega, by show k1 ≤ b; omega, hO4.upd (by omega) (by omega), by show partL c.texts c.list b (b - k1) k1 _ = res; rw [show b - k1 = g0 by omega]; exact hP⟩, by show hB.n ≤ h4.n; omega, fun i hi hiq => (set_ne _ hiq).trans (f4 i hi hiq), rfl⟩, by show b - k1 < b - s.1; omega⟩
      · rw [if_neg (by omega)] at hP
        have z22 : (X.op = 22) = False := eq_false hb5
        simp (maxSteps := 1000000) -implicitDefEqProofs only [push_cast, seval, x4, rd_of x4, rd1_of x4, mx4, z22, w1]
        exact ⟨(k1, H4), by kernel_rfl, ⟨⟨by show a ≤ k1; omega, by show k1 ≤ b; omega, hO4, by show partL c.texts c.list b (b - k1) k1 _ = res; rw [show b - k1 = g0 by omega]; exact hP⟩, by omega, f4, g4⟩, by show b - k1 < b - s.1; omega⟩
  · have eb : s.1 = b := by omega
    rw [eb, Nat.sub_self] at hP
    have hg := hcs_get s.2 a n (b - a) (by omega)
    rw [show a + (b - a) = b by omega] at hg
    simp (maxSteps := 1000000) -implicitDefEqProofs only [push_cast, seval, e3, rd_of e3, rd1_of e3, e4, rd_of e4, rd1_of e4, e7, rd_of e7, rd1_of e7, m3, m4, m7, wba, g2, rd_of g2, rd1_of g2, mq, hg, Nat.mul_one]
    exact ⟨by omega, by omega, by rw [← hP]; rfl, pre2.keep⟩
end Go.Proofs.YtdlpdfclljnmhaaGreat
namespace Go.Proofs.YtdlpdfclljnmhaaGreat
open Go Go.Sim Go.Proofs
set_option linter.unusedSimpArgs false
set_option linter.unusedVariables false
set_option maxRecDepth 100000
set_option maxHeartbeats 1000000
structure OkC (c : Cod) : Prop where
  t30 : ∀ s ∈ c.texts, s.size ≤ 30
  t60 : c.texts.length ≤ 60
  l250 : c.list.length ≤ 250
  bgn : c.bgn = 0
  line : 0 ≤ c.line ∧ c.line ≤ c.list.length
  fin : c.line ≤ c.fin ∧ c.fin ≤ c.list.length
theorem codeOk_iff (c : Cod) : codeOk c = true ↔ OkC c ∧ partP c.texts c.list 0 c.line.toNat = true ∧ partP c.texts c.list c.line.toNat c.fin.toNat = true ∧ partP c.texts c.list c.fin.toNat c.list.length = true := by
  unfold codeOk inB
  simp only [Bool.and_eq_true, decide_eq_true_eq, List.all_eq_true]
  constructor
  · rintro ⟨⟨⟨⟨⟨⟨⟨⟨a, b⟩, c1⟩, d⟩, e⟩, f⟩, g⟩, h⟩, i⟩
    exact ⟨⟨a, b, c1, d, e, f⟩, g, h, i⟩
  · rintro ⟨⟨a, b, c1, d, e, f⟩, g, h, i⟩
    exact ⟨⟨⟨⟨⟨⟨⟨⟨a, b⟩, c1⟩, d⟩, e⟩, f⟩, g⟩, h⟩, i⟩
theorem codeOk_no {c : Cod} (h : OkC c → False) : codeOk c = false := by
  rw [Bool.eq_false_iff]; exact fun e => h ((codeOk_iff c).1 e).1
theorem codeOk_parts {c : Cod} (o : OkC c) : codeOk c = (partP c.texts c.list 0 c.line.toNat && partP c.texts c.list c.line.toNat c.fin.toNat && partP c.texts c.list c.fin.toNat c.list.length) := by
  rw [Bool.eq_iff_iff, codeOk_iff]
  simp only [Bool.and_eq_true, o, true_and, and_assoc]
theorem codeOk_bad {c : Cod} {k : Nat} (hk : k < c.list.length) (h : insOk c.list[k] = false) : codeOk c = false := by
  rw [Bool.eq_false_iff]
  intro e
  have := codeOk_ins e k hk
  rw [getD_of _ _ _ hk, h] at this
  cases this
theorem CodeOk_i (c : Cod) (vA vB : Value) (h : AH) (r : RdC h vA vB c) (ht : c.texts.length ≤ 1048576) (hl : c.list.length ≤ 1048576) (hsz : ∀ s ∈ c.texts, s.size ≤ maxLen) :
    CD Tryz.prog 51 [.agg #[vA, vB, .int .i64 c.bgn, .int .i64 c.line, .int .i64 c.fin]] h (.bool (codeOk c)) h := by
  refine CD.withBig (fun big => ?_)
  refine CD.quiet ?_ (low_bool _ _)
  have y1 := r.texts.one
  have y2 := rdv_cells r.texts
  have y3 := r.list.one
  have y4 := rdv_cells r.list
  obtain ⟨A, cA, rfl, hA⟩ := r.texts.rde (fun _ => rfl)
  obtain ⟨B, cB, rfl, hB⟩ := r.list.rde (fun _ => rfl)
  refine CC.ofN Tryz.func51 Tryz.ntmps51 Tryz.results51 rfl (by decide) (by kernel_rfl) ?_
  simp (maxSteps := 1000000) -implicitDefEqProofs only [push_cast, seval]
  have pA : Pre h (h.alloc (.cells [.slice A c.texts.length cA, .slice B c.list.length cB, .int .i64 c.bgn, .int .i64 c.line, .int .i64 c.fin] .solo h.n)) := (Pre.refl h).alloc _
  refine WC.loopA (by kernel_rfl) [10] [2, 4, 11, 12, 13, 14, 15, 16, 17] (fun i : Nat => [.int .i64 i]) (fun i h' => (i ≤ c.texts.length ∧ ∀ j (hj : j < c.texts.length), j < i → c.texts[j].size ≤ 30) ∧ Pre (h.alloc (.cells [.slice A c.texts.length cA, .slice B c.list.length cB, .int .i64 c.bgn, .int .i64 c.line, .int .i64 c.fin] .solo h.n)) h') (fun i => c.texts.length - i) 0 (by kernel_rfl) ⟨⟨Nat.zero_le _, fun j hj h0 => by omega⟩, Pre.refl _⟩ ?_
  intro i g h1 hJ
  have hi := hJ.1.1
  have hj := hJ.1.2
  have p1 := hJ.2
  clear hJ
  have e1 : h1.ob h.n = _ := (p1.ob _ (lt_alloc _)).trans (alloc_same _)
  have l1 : h.n < h1.n := Nat.lt_of_lt_of_le (lt_alloc _) p1.n
  simp (maxSteps := 1000000) -implicitDefEqProofs only [push_cast, seval]
  with_reducible refine bcase_d (fun hb => ?_) (fun hb => ?_)
  · have hi' : i < c.texts.length := by omega
    with_reducible refine hA.use big (pA.trans p1) hi' (fun id off eA hlt hr => ?_)
    subst eA
    simp only [encTx] at hr
    have r0 := rd_1 hr
    simp (maxSteps := 1000000) -implicitDefEqProofs only [push_cast, seval, hr, r0, hlt]
    repeat (with_reducible refine And.intro ?_ ?_; · (first | omega | decide))
    with_reducible refine bcase_d (fun hb2 => ?_) (fun hb2 => ?_)
    · simp (maxSteps := 1000000) -implicitDefEqProofs only [push_cast, seval]
      rw [codeOk_no (fun o => by have := o.t30 _ (List.getElem_mem hi'); omega)]
      exact ⟨rfl, (pA.trans p1).keep⟩
    · simp (maxSteps := 1000000) -implicitDefEqProofs only [push_cast, seval]
      rw [wrapSucc (by omega)]
      refine ⟨i + 1, by kernel_rfl, ⟨⟨by omega, fun j hj1 hj2 => ?_⟩, p1⟩, by omega⟩
      by_cases e : j = i
      · subst e; omega
      · exact hj j hj1 (by omega)
  have t30 : ∀ s ∈ c.texts, s.size ≤ 30 := fun s hs => by
    obtain ⟨j, hj1, rfl⟩ := List.getElem_of_mem hs
    exact hj j hj1 (by omega)
  clear hj
  simp (maxSteps := 1000000) -implicitDefEqProofs only [push_cast, seval, e1, rd_of e1, rd1_of e1, l1]
  refine WC.loopA (by kernel_rfl) [21] [2, 6, 22, 23, 24, 25, 26, 27, 28, 29, 30, 31, 32, 33, 34, 35] (fun i : Nat => [.int .i64 i]) (fun i h' => (i ≤ c.list.length ∧ ∀ j (hj : j < c.list.length), j < i → insOk c.list[j] = true) ∧ Pre h1 h') (fun i => c.list.length - i) 0 (by kernel_rfl) ⟨⟨Nat.zero_le _, fun j hj h0 => by omega⟩, Pre.refl _⟩ ?_
  clear hb hi
  intro k g' h2 hJ
  have hi := hJ.1.1
  have hj := hJ.1.2
  have p2 := hJ.2
  clear hJ
  have e2 : h2.ob h.n = _ := (p2.ob _ l1).trans e1
  have l2 : h.n < h2.n := Nat.lt_of_lt_of_le l1 p2.n
  have pre2 := (pA.trans p1).trans p2
  simp (maxSteps := 1000000) -implicitDefEqProofs only [push_cast, seval]
  with_reducible refine bcase_d (fun hb => ?_) (fun hb => ?_)
  · have hi' : k < c.list.length := by omega
    with_reducible refine hB.use big pre2 hi' (fun id off eA hlt hr => ?_)
    subst eA
    generalize hX : c.list[k] = X at *
    simp only [encN] at hr
    have r0 := (rd_2 hr).1
    have r1 := (rd_2 hr).2
    simp (maxSteps := 1000000) -implicitDefEqProofs only [push_cast, seval, hr, r0, r1, hlt]
    repeat (with_reducible refine And.intro ?_ ?_; · (first | omega | decide))
    have pF : Pre h1 ((h2.alloc (AOb.cells [Value.int IntKind.i64 0, Value.int IntKind.i64 0] .solo h2.n)).set h2.n (AOb.cells [Value.int IntKind.i64 X.op, Value.int IntKind.i64 X.arg] .solo h2.n)) := (p2.alloc _).set (p2.n) _
    with_reducible refine CD.to (within_c _ _ _ _) ?_
    cases hop : inB X.op 1 24 with
    | false =>
      simp (maxSteps := 1000000) -implicitDefEqProofs only [push_cast, seval]
      rw [codeOk_bad hi' (by rw [hX, insOk, hop]; rfl)]
      exact ⟨rfl, ((pA.trans p1).trans pF).keep⟩
    | true =>
    simp (maxSteps := 1000000) -implicitDefEqProofs only [push_cast, seval]
    with_reducible refine CD.to (within_c _ _ _ _) ?_
    cases har : inB X.arg 0 255 with
    | false =>
      simp (maxSteps := 1000000) -implicitDefEqProofs only [push_cast, seval]
      rw [codeOk_bad hi' (by rw [hX, insOk, har, Bool.and_false])]
      exact ⟨rfl, ((pA.trans p1).trans pF).keep⟩
    | true =>
    simp (maxSteps := 1000000) -implicitDefEqProofs only [push_cast, seval]
    rw [wrapSucc (by omega)]
    refine ⟨k + 1, by kernel_rfl, ⟨⟨by omega, fun j hj1 hj2 => ?_⟩, pF⟩, by omega⟩
    by_cases e : j = k
    · subst e; rw [hX, insOk, hop, har]; rfl
    · exact hj j hj1 (by omega)
  have hok : ∀ j, j < c.list.length → insOk (c.list.getD j ⟨0, 0⟩) = true := fun j hj1 => by
    rw [getD_of _ _ _ hj1]; exact hj j hj1 (by omega)
  clear hj
  simp (maxSteps := 1000000) -implicitDefEqProofs only [push_cast, seval, e2, rd_of e2, rd1_of e2, l2]
  with_reducible refine bcase_d (fun q1 => ?_) (fun q1 => ?_)
  · simp (maxSteps := 1000000) -implicitDefEqProofs only [push_cast, seval]
    rw [codeOk_no (fun o => by have := o.t60; omega)]
    exact ⟨rfl, pre2.keep⟩
  simp (maxSteps := 1000000) -implicitDefEqProofs only [push_cast, seval, e2, rd_of e2, rd1_of e2, l2]
  with_reducible refine bcase_d (fun q2 => ?_) (fun q2 => ?_)
  · simp (maxSteps := 1000000) -implicitDefEqProofs only [push_cast, seval]
    rw [codeOk_no (fun o => by have := o.l250; omega)]
    exact ⟨rfl, pre2.keep⟩
  simp (maxSteps := 1000000) -implicitDefEqProofs only [push_cast, seval, e2, rd_of e2, rd1_of e2, l2]
  with_reducible refine bcase_d (fun q3 => ?_) (fun q3 => ?_)
  case refine_2 =>
    simp (maxSteps := 1000000) -implicitDefEqProofs only [push_cast, seval, e2, rd_of e2, rd1_of e2, l2]
    rw [codeOk_no (fun o => q3 o.bgn)]
    exact ⟨rfl, pre2.keep⟩
  simp (maxSteps := 1000000) -implicitDefEqProofs only [push_cast, seval, e2, rd_of e2, rd1_of e2, l2]
  with_reducible refine CD.to (within_c _ _ _ _) ?_
  cases q4 : inB c.line 0 (c.list.length : Nat) with
  | false =>
    simp (maxSteps := 1000000) -implicitDefEqProofs only [push_cast, seval, e2, rd_of e2, rd1_of e2, l2]
    rw [codeOk_no (fun o => by have := o.line; simp only [inB, Bool.and_eq_false_iff, decide_eq_false_iff_not] at q4; omega)]
    exact ⟨rfl, pre2.keep⟩
  | true =>
  simp (maxSteps := 1000000) -implicitDefEqProofs only [push_cast, seval, e2, rd_of e2, rd1_of e2, l2]
  with_reducible refine CD.to (within_c _ _ _ _) ?_
  cases q5 : inB c.fin c.line (c.list.length : Nat) with
  | false =>
    simp (maxSteps := 1000000) -implicitDefEqProofs only [push_cast, seval, e2, rd_of e2, rd1_of e2, l2]
    rw [codeOk_no (fun o => by have := o.fin; simp only [inB, Bool.and_eq_false_iff, decide_eq_false_iff_not] at q5; omega)]
    exact ⟨rfl, pre2.keep⟩
  | true =>
  simp only [inB, Bool.and_eq_true, decide_eq_true_eq] at q4 q5
  have o : OkC c := ⟨t30, by omega, by omega, q3, by omega, by omega⟩
  rw [codeOk_parts o]
  have hP := fun a b h1 h2 (h3 : AH) (p : Pre h h3) => partFits_c c _ _ a b h3 (r.pre p) (by omega) t30 h1 h2 (by omega) hok
  have P1 := hP 0 c.line.toNat (Nat.zero_le _) (by omega)
  have P2 := hP c.line.toNat c.fin.toNat (by omega) (by omega)
  have P3 := hP c.fin.toNat c.list.length (by omega) (Nat.le_refl _)
  rw [Int.toNat_of_nonneg (by omega)] at P1
  rw [Int.toNat_of_nonneg (by omega), Int.toNat_of_nonneg (by omega)] at P2
  rw [Int.toNat_of_nonneg (by omega)] at P3
  rw [castLit0] at P1
  simp (maxSteps := 1000000) -implicitDefEqProofs only [push_cast, seval, e2, rd_of e2, rd1_of e2, l2]
  with_reducible refine CD.to (P1 _ pre2) ?_
  cases w1 : partP c.texts c.list 0 c.line.toNat with
  | false =>
    simp (maxSteps := 1000000) -implicitDefEqProofs only [push_cast, seval]
    exact pre2.keep
  | true =>
  simp (maxSteps := 1000000) -implicitDefEqProofs only [push_cast, seval, e2, rd_of e2, rd1_of e2, l2]
  with_reducible refine CD.to (P2 _ pre2) ?_
  cases w2 : partP c.texts c.list c.line.toNat c.fin.toNat with
  | false =>
    simp (maxSteps := 1000000) -implicitDefEqProofs only [push_cast, seval]
    exact pre2.keep
  | true =>
  simp (maxSteps := 1000000) -implicitDefEqProofs only [push_cast, seval, e2, rd_of e2, rd1_of e2, l2]
  with_reducible refine CD.to (P3 _ pre2) ?_
  simp (maxSteps := 1000000) -implicitDefEqProofs only [push_cast, seval]
  exact pre2.keep
end Go.Proofs.YtdlpdfclljnmhaaGreat
namespace Go.Proofs.YtdlpdfclljnmhaaGreat
open Go Go.Sim Go.Proofs
set_option linter.unusedSimpArgs false
set_option linter.unusedVariables false
set_option maxRecDepth 100000
set_option maxHeartbeats 1000000
theorem l07Name_c2 (s : ByteArray) (hs : s.size ≤ maxLen) (h : AH) : CD Tryz.prog 140 [.string s] h (.bool (letters s)) h := by
  refine CD.quiet ?_ (low_bool _ _)
  rw [maxLen_eq] at hs
  refine CC.ofN Tryz.func140 Tryz.ntmps140 Tryz.results140 rfl (by decide) (by kernel_rfl) ?_
  simp (maxSteps := 1000000) -implicitDefEqProofs only [push_cast, seval]
  refine WC.loopA (by kernel_rfl) [3] [2, 4, 5, 6, 7, 8, 9, 10, 11, 12, 13, 14] (fun i : Nat => [.int .i64 i]) (fun i h' => (i ≤ s.size ∧ ∀ j, j < i → letter (byteAt s j).toNat = true) ∧ h' = h) (fun i => s.size - i) 0 (by kernel_rfl) ⟨⟨Nat.zero_le _, by omega⟩, rfl⟩ ?_
  intro i g h' hJ
  have hi := hJ.1.1
  have hj := hJ.1.2
  have e := hJ.2
  clear hJ
  subst e
  simp (maxSteps := 1000000) -implicitDefEqProofs only [push_cast, seval]
  repeat' (first | with_reducible (first | exact Keep.refl _ _ | assumption | exact byte_lt _ _ | apply Keep.alloc | (refine Keep.set ?_ ?_; rotate_left; · omega) | apply Pre.alloc | apply Pre.set | exact Pre.refl _ | exact le_alloc _ | (refine Pre.keep ?_; assumption) | (refine Pre.n ?_; assumption)) | ((with_reducible (first | refine CD.to (l05Letter_c _ _) ?_ | refine CQ.pure (fun _ => l05Letter_c _ _) ?_ | refine CD.to (l01In_c _ _ _ _) ?_ | refine CQ.pure (fun _ => l01In_c _ _ _ _) ?_ | refine bcase_d (fun hb => ?_) (fun hb => ?_) | refine bcase_mk (fun hb => ?_) (fun hb => ?_))) <;> try simp (maxSteps := 1000000) -implicitDefEqProofs only [push_cast, seval]) | with_reducible refine And.intro ?_ ?_ | omega | (simp only [alloc_n, set_n, kill_n]; omega) | (exfalso; omega))
  · rw [wrapSucc (by omega)]
    exact ⟨i + 1, by kernel_rfl, ⟨by omega, fun j hj' => (Nat.lt_succ_iff_lt_or_eq.1 hj').elim (hj j) (fun e => by subst e; exact hb)⟩, by omega⟩
  · simp only [letters, allAt_false (s := s) (i := i) (by omega) hb]; rfl
  · have : allAt s letter = true := allAt_iff.2 (fun j hj' => hj j (by omega))
    simp [letters, this]
theorem op_cases {op : Int} (h : 1 ≤ op ∧ op ≤ 24) : op = 1 ∨ op = 2 ∨ op = 3 ∨ op = 4 ∨ op = 5 ∨ op = 6 ∨ op = 7 ∨ op = 8 ∨ op = 9 ∨ op = 10 ∨ op = 11 ∨ op = 12 ∨ op = 13 ∨ op = 14 ∨ op = 15 ∨ op = 16 ∨ op = 17 ∨ op = 18 ∨ op = 19 ∨ op = 20 ∨ op = 21 ∨ op = 22 ∨ op = 23 ∨ op = 24 := by omega
theorem l07Needs_c (x : Ins) (hok : insOk x = true) (h : AH) : CD Tryz.prog 111 [.agg #[.int .i64 x.op, .int .i64 x.arg]] h (.tuple #[.int .i64 (takesP x), .int .i64 (putsP x)]) h := by
  refine CD.quiet ?_ (low_tuple (by simp [low_int]))
  obtain ⟨op, arg⟩ := x
  simp only [insOk, inB, Bool.and_eq_true, decide_eq_true_eq] at hok
  rcases op_cases hok.1 with rfl | rfl | rfl | rfl | rfl | rfl | rfl | rfl | rfl | rfl | rfl | rfl | rfl | rfl | rfl | rfl | rfl | rfl | rfl | rfl | rfl | rfl | rfl | rfl
  all_goals
    refine CC.ofN Tryz.func111 Tryz.ntmps111 Tryz.results111 rfl (by decide) (by kernel_rfl) ?_
    simp (maxSteps := 1000000) -implicitDefEqProofs only [push_cast, seval]
    exact ⟨rfl, ((Pre.refl h).alloc _).keep⟩
theorem l07Arg_c (c : Cod) (vA vB : Value) (at_ fin : Nat) (X : Ins) (h : AH) (r : RdC h vA vB c) (ht : c.texts.length ≤ 60) (hsz : ∀ s ∈ c.texts, s.size ≤ 30) (hf : fin ≤ 250) (ha : at_ ≤ 250) (hok : insOk X = true) :
    CD Tryz.prog 110 [.agg #[vA, vB, .int .i64 c.bgn, .int .i64 c.line, .int .i64 c.fin], .agg #[.int .i64 X.op, .int .i64 X.arg], .int .i64 (at_ : Nat), .int .i64 (fin : Nat)] h (.bool (argP c.texts X at_ fin)) h := by
  refine CD.withBig (fun big => ?_)
  refine CD.quiet ?_ (low_bool _ _)
  have y1 := r.texts.one
  have y2 := rdv_cells r.texts
  have y3 := r.list.one
  have y4 := rdv_cells r.list
  obtain ⟨A, cA, rfl, hA⟩ := r.texts.rde (fun _ => rfl)
  obtain ⟨op, arg⟩ := X
  simp only [insOk, inB, Bool.and_eq_true, decide_eq_true_eq] at hok
  obtain ⟨k, rfl⟩ := Int.eq_ofNat_of_zero_le hok.2.1
  unfold argP texted named
  simp only [Int.toNat_natCast]
  by_cases hk : k < c.texts.length
  · have hs30 := hsz c.texts[k] (List.getElem_mem hk)
    rw [getD_of _ _ _ hk, decide_eq_true (show (k : Int) < (c.texts.length : Int) by omega)]
    generalize hT : c.texts[k] = T at *
    refine hA.use big (Pre.refl h) hk (fun id off eA hlt hr => ?_)
    subst eA
    rw [hT] at hr
    simp only [encTx] at hr
    have r0 := rd_1 hr
    have mm : T.size ≤ maxLen := by rw [maxLen_eq]; omega
    have hkk : (k : Int) < (c.texts.length : Int) := by omega
    have pH : Pre h ((h.alloc (.cells [.slice (some ⟨id, off, none⟩) c.texts.length cA, vB, .int .i64 c.bgn, .int .i64 c.line, .int .i64 c.fin] .solo h.n)).alloc (.cells [.int .i64 op, .int .i64 (k : Nat)] .solo (h.n + 1))) := ((Pre.refl h).alloc _).alloc _
    refine CC.ofN Tryz.func110 Tryz.ntmps110 Tryz.results110 rfl (by decide) (by kernel_rfl) ?_
    simp (maxSteps := 1000000) -implicitDefEqProofs only [push_cast, seval, y1, y2, y3, y4]
    repeat' (first | with_reducible (first | exact Keep.refl _ _ | assumption | exact byte_lt _ _ | apply Keep.alloc | (refine Keep.set ?_ ?_; rotate_left; · omega) | apply Pre.alloc | apply Pre.set | exact Pre.refl _ | exact le_alloc _ | (refine Pre.keep ?_; assumption) | (refine Pre.n ?_; assumption)) | ((with_reducible (first | refine CD.to (l01In_c _ _ _ _) ?_ | refine CQ.pure (fun _ => l01In_c _ _ _ _) ?_ | refine CD.to (l07Name_c2 T mm _) ?_ | refine CQ.pure (fun _ => l07Name_c2 T mm _) ?_ | refine bcase_d (fun hb => ?_) (fun hb => ?_) | refine bcase_mk (fun hb => ?_) (fun hb => ?_))) <;> try simp (maxSteps := 1000000) -implicitDefEqProofs only [push_cast, seval, y1, y2, y3, y4, hr, r0, hlt, hkk]) | with_reducible refine And.intro ?_ ?_ | omega | (simp only [alloc_n, set_n, kill_n]; omega) | (exfalso; omega))
    all_goals first
      | (subst hb; simp [inB]; done)
      | (rename_i e; subst e; simp [inB]; done)
      | (congr 1; grind [inB])
      | skip
    with_reducible refine CC.mono (ReadPattern_s T _ mm) (fun v h3 hv => ?_)
    have p3 := hv.1
    with_reducible refine Exists.elim hv.2.form (fun rv hf => ?_)
    have ev := hf.1
    have z1 := hf.2.1
    have z2 := hf.2.2
    clear hf hv
    subst ev
    rename_i e15
    have pF : Pre h h3 := pH.trans p3
    simp (maxSteps := 1000000) -implicitDefEqProofs only [push_cast, seval, z1, z2]
    refine ⟨?_, ((pF.alloc _).set (by have := pF.n; omega) _).keep⟩
    subst e15
    simp [inB]
  · rw [decide_eq_false (show ¬ (k : Int) < (c.texts.length : Int) by omega)]
    refine CC.ofN Tryz.func110 Tryz.ntmps110 Tryz.results110 rfl (by decide) (by kernel_rfl) ?_
    simp (maxSteps := 1000000) -implicitDefEqProofs only [push_cast, seval, y1, y2, y3, y4]
    repeat' (first | with_reducible (first | exact Keep.refl _ _ | assumption | exact byte_lt _ _ | apply Keep.alloc | (refine Keep.set ?_ ?_; rotate_left; · omega) | apply Pre.alloc | apply Pre.set | exact Pre.refl _ | exact le_alloc _ | (refine Pre.keep ?_; assumption) | (refine Pre.n ?_; assumption)) | ((with_reducible (first | refine CD.to (l01In_c _ _ _ _) ?_ | refine CQ.pure (fun _ => l01In_c _ _ _ _) ?_ | refine bcase_d (fun hb => ?_) (fun hb => ?_) | refine bcase_mk (fun hb => ?_) (fun hb => ?_))) <;> try simp (maxSteps := 1000000) -implicitDefEqProofs only [push_cast, seval, y1, y2, y3, y4]) | with_reducible refine And.intro ?_ ?_ | omega | (simp only [alloc_n, set_n, kill_n]; omega) | (exfalso; omega))
    all_goals first
      | (subst hb; simp [inB]; done)
      | (rename_i e; subst e; simp [inB]; done)
      | (congr 1; grind [inB])
      | skip
end Go.Proofs.YtdlpdfclljnmhaaGreat
namespace Go.Proofs.YtdlpdfclljnmhaaGreat
open Go Go.Sim Go.Proofs
set_option linter.unusedSimpArgs false
set_option linter.unusedVariables false
set_option maxRecDepth 100000
set_option maxHeartbeats 2000000
theorem hcs_congr (H H' : Nat → Int) (a n : Nat) (h : ∀ i, i < n → H (a + i) = H' (a + i)) : hcs H a n = hcs H' a n := by
  apply List.ext_getElem?
  intro m
  by_cases hm : m < n
  · rw [hcs_get _ _ _ _ hm, hcs_get _ _ _ _ hm, h m hm]
  · rw [List.getElem?_eq_none (by rw [hcs_len]; omega), List.getElem?_eq_none (by rw [hcs_len]; omega)]
theorem hcs_zero (n : Nat) : List.replicate n (Value.int .i64 0) = hcs (fun j => if j < 0 then -1 else 0) 0 n := by
  apply List.ext_getElem?
  intro m
  by_cases hm : m < n
  · rw [hcs_get _ _ _ _ hm, List.getElem?_replicate, if_pos hm]; simp
  · rw [List.getElem?_eq_none (by simp; omega), List.getElem?_eq_none (by rw [hcs_len]; omega)]
/-- Where it goes on. -/
def nextP (X : Ins) (k : Nat) : List Nat := (if X.op ≠ 23 ∧ X.op ≠ 22 then [k + 1] else []) ++ (if X.op = 21 ∨ X.op = 22 then [X.arg.toNat] else [])
def comesP (N : Int) : List Nat → (Nat → Int) → Option (Nat → Int)
  | [], H => some H
  | j :: r, H => match comeP H j N with
    | none => none
    | some H1 => comesP N r H1
theorem stepP_eq (X : Ins) (k : Nat) (H : Nat → Int) : stepP X k H = if H k < 0 then some H else if H k < takesP X ∨ 20 < H k - takesP X + putsP X then none else comesP (H k - takesP X + putsP X) (nextP X k) H := by
  unfold stepP nextP
  split
  · rfl
  · split
    · rfl
    · generalize H k - takesP X + putsP X = N
      by_cases h1 : X.op ≠ 23 ∧ X.op ≠ 22
      · rw [if_pos h1, if_pos h1]
        by_cases h2 : X.op = 21 ∨ X.op = 22
        · rw [if_pos h2]
          simp only [List.cons_append, List.nil_append, comesP]
          cases comeP H (k + 1) N with
          | none => rfl
          | some H1 =>
            simp only
            rw [if_pos h2]
            cases comeP H1 X.arg.toNat N <;> rfl
        · rw [if_neg h2]
          simp only [List.append_nil, comesP]
          cases comeP H (k + 1) N with
          | none => rfl
          | some H1 => simp only; rw [if_neg h2]
      · rw [if_neg h1, if_neg h1]
        simp only
        by_cases h2 : X.op = 21 ∨ X.op = 22
        · rw [if_pos h2, if_pos h2]
          simp only [List.nil_append, comesP]
          cases comeP H X.arg.toNat N <;> rfl
        · rw [if_neg h2, if_neg h2]; rfl
theorem rdv_at {α : Type} {h : AH} {v : Value} {k : Nat} {enc : α → List Value} {l : List α} (r : RdV h v k enc l) (hl : ∀ x, (enc x).length = k) {i : Nat} (hi : i < l.length) {X : Prop} (f : ∀ id off c, v = .slice (some ⟨id, off, none⟩) l.length c → id < h.n → rd h id (off + i * k) k = some (enc l[i]) → X) : X := by
  rcases r with ⟨c, rfl, rfl⟩ | ⟨id, off, c, rfl, r, hlt⟩
  · cases hi
  · exact f id off c rfl hlt (chunk_of (n := 0) (fun x _ => hl x) r hi)
theorem comesP_next {N : Int} {nx : List Nat} {i : Nat} (hi : i < nx.length) (H : Nat → Int) : comesP N (nx.drop i) H = (match comeP H nx[i] N with | none => none | some H1 => comesP N (nx.drop (i + 1)) H1) := by
  rw [List.drop_eq_getElem_cons hi, comesP]
theorem nextP_le {X : Ins} {k b : Nat} (h1 : k < b) (j : jumpA X k b) : ∀ m ∈ nextP X k, m ≤ b := fun m hm => by
  unfold nextP at hm
  rcases List.mem_append.1 hm with hm | hm
  · split at hm
    · simp at hm; omega
    · cases hm
  · split at hm
    · rename_i hx
      obtain ⟨y, e, h2, h3⟩ := j.get hx
      simp [e] at hm; omega
    · cases hm
theorem l07Part_c (c : Cod) (vA vB : Value) (a b : Nat) (h : AH) (r : RdC h vA vB c) (ht : c.texts.length ≤ 60) (hsz : ∀ s ∈ c.texts, s.size ≤ 30) (hab : a ≤ b) (hbl : b ≤ c.list.length) (hl : c.list.length ≤ 250) :
    CD Tryz.prog 77 [.agg #[vA, vB, .int .i64 c.bgn, .int .i64 c.line, .int .i64 c.fin], .int .i64 (a : Nat), .int .i64 (b : Nat)] h (.bool (partP c.texts c.list a b)) h := by
  refine CD.withBig (fun big => ?_)
  refine CD.quiet ?_ (low_bool _ _)
  have y1 := r.texts.one
  have y2 := rdv_cells r.texts
  have y3 := r.list.one
  have y4 := rdv_cells r.list
  obtain ⟨B, cB, rfl, hLst⟩ := r.list.rde (fun _ => rfl)
  obtain ⟨n, hn⟩ : ∃ n, n = b + 1 := ⟨_, rfl⟩
  have wn : IntKind.i64.wrap ((b : Int) + 1) = (n : Nat) := by rw [wrapSucc (by omega), hn]
  have ll : ∀ H, (hcs H 0 n).length = n := fun H => hcs_len H 0 n
  refine CC.ofN Tryz.func77 Tryz.ntmps77 Tryz.results77 rfl (by decide) (by kernel_rfl) ?_
  simp (maxSteps := 1000000) -implicitDefEqProofs only [push_cast, seval, wn, y1, y2, y3, y4]
  repeat (with_reducible refine And.intro ?_ ?_; · (first | omega | decide))
  rw [Nat.mul_one, hcs_zero]
  have p0 : Pre h (h.alloc (AOb.cells [vA, .slice B c.list.length cB, .int .i64 c.bgn, .int .i64 c.line, .int .i64 c.fin] .solo h.n)) := (Pre.refl h).alloc _
  have c3 : (h.alloc (AOb.cells [vA, .slice B c.list.length cB, .int .i64 c.bgn, .int .i64 c.line, .int .i64 c.fin] .solo h.n)).ob h.n = _ := alloc_same _
  have n0 : (h.alloc (AOb.cells [vA, .slice B c.list.length cB, .int .i64 c.bgn, .int .i64 c.line, .int .i64 c.fin] .solo h.n)).n = h.n + 1 := rfl
  rw [← n0]
  generalize h.alloc (AOb.cells [vA, .slice B c.list.length cB, .int .i64 c.bgn, .int .i64 c.line, .int .i64 c.fin] .solo h.n) = H0 at *
  obtain ⟨q, hq⟩ : ∃ q, q = H0.n := ⟨_, rfl⟩
  have hq2 : q = h.n + 1 := hq.trans n0
  refine WC.loopA (by kernel_rfl) [21] [8, 22, 23, 24, 25, 26, 27] (fun i : Nat => [.int .i64 i]) (fun i h' => i ≤ n ∧ h' = H0.alloc (.cells (hcs (fun j => if j < i then -1 else 0) 0 n) .solo H0.n)) (fun i => n - i) 0 (by kernel_rfl) ⟨Nat.zero_le _, rfl⟩ ?_
  intro i g h1 hJ
  have hi := hJ.1
  have hh := hJ.2
  clear hJ
  subst hh
  simp (maxSteps := 1000000) -implicitDefEqProofs only [push_cast, seval]
  with_reducible refine bcase_d (fun hb => ?_) (fun hb => ?_)
  · have hi' : i < n := by omega
    simp (maxSteps := 1000000) -implicitDefEqProofs only [push_cast, seval, ll, hi', Nat.mul_one]
    repeat (with_reducible refine And.intro ?_ ?_; · (first | omega | decide))
    rw [wrapSucc (by omega), alloc_set2, hcs_set _ 0 n i i (-1) (Nat.zero_add i)]
    refine ⟨i + 1, by kernel_rfl, ⟨by omega, ?_⟩, by omega⟩
    rw [hcs_congr (updH (fun j => if j < i then -1 else 0) i (-1)) (fun j => if j < i + 1 then -1 else 0) 0 n (fun m hm => by unfold updH; dsimp only; split <;> split <;> (try split) <;> omega)]
  have hbn : i = n := by omega
  have han : a < n := by omega
  simp (maxSteps := 1000000) -implicitDefEqProofs only [push_cast, seval, ll, han, Nat.mul_one]
  repeat (with_reducible refine And.intro ?_ ?_; · (first | omega | decide))
  rw [alloc_set2, hcs_set _ 0 n a a 0 (Nat.zero_add a), hcs_congr (updH (fun j => if j < i then -1 else 0) a 0) (fun j => if j = a then 0 else -1) 0 n (fun m hm => by unfold updH; dsimp only; split <;> (try split) <;> omega)]
  have b3 : (H0.alloc (.cells (hcs (fun j => if j = a then 0 else -1) 0 n) .solo H0.n)).ob h.n = _ := (alloc_lt _ (by omega)).trans c3
  have bq : (H0.alloc (.cells (hcs (fun j => if j = a then 0 else -1) 0 n) .solo H0.n)).ob H0.n = _ := alloc_same _
  have pB : Pre h (H0.alloc (.cells (hcs (fun j => if j = a then 0 else -1) 0 n) .solo H0.n)) := p0.alloc _
  have nB : (H0.alloc (.cells (hcs (fun j => if j = a then 0 else -1) 0 n) .solo H0.n)).n = H0.n + 1 := rfl
  generalize H0.alloc (.cells (hcs (fun j => if j = a then 0 else -1) 0 n) .solo H0.n) = hB at *
  rw [← hq] at *
  have k3 : h.n < hB.n := by omega
  have kq : q < hB.n := by omega
  clear c3 p0 hi hb
  unfold partP
  generalize hres : partL c.texts c.list b (b - a) a (fun j => if j = a then 0 else -1) = res
  refine WC.loopA (by kernel_rfl) [9] [6, 10, 11, 12, 13, 14, 15, 32, 33, 34, 35, 36, 37, 38, 39, 40, 41, 42, 43, 44, 45, 46, 47, 48, 49, 50, 51, 52, 53, 54, 55, 56, 57, 58, 59, 60, 61, 62, 63, 64, 65, 66, 67, 68, 69, 70, 71, 72, 73, 74, 75, 76, 77, 78, 79, 80, 81, 82, 83, 84, 85, 86, 87, 88, 89, 90, 91, 92, 93, 94, 95, 96, 97, 98, 99, 100, 101, 102, 103, 104, 105, 106, 107, 108, 109, 110, 111, 112, 113, 114, 115, 116, 117, 118, 119, 120, 121, 122, 123, 124, 125, 126, 127, 128, 129, 130, 131, 132, 133, 134, 135, 136, 137, 138, 139, 140, 141, 142, 143, 144, 145, 146] (fun s : Nat × (Nat → Int) => [.int .i64 (s.1 : Nat)]) (fun s h' => (a ≤ s.1 ∧ s.1 ≤ b ∧ HOk s.2 ∧ partL c.texts c.list b (b - s.1) s.1 s.2 = res) ∧ hB.n ≤ h'.n ∧ (∀ i, i < hB.n → i ≠ q → h'.ob i = hB.ob i) ∧ h'.ob q = .cells (hcs s.2 0 n) .solo q) (fun s => b - s.1) (a, (fun j => if j = a then 0 else -1)) (by kernel_rfl) ⟨⟨Nat.le_refl _, hab, HOk.start a, hres⟩, Nat.le_refl _, fun _ _ _ => rfl, bq⟩ ?_
  clear bq hres
  intro s g h2 hJ
  have hs1 := hJ.1.1
  have hs2 := hJ.1.2.1
  have hO := hJ.1.2.2.1
  have hP := hJ.1.2.2.2
  have n2 := hJ.2.1
  have f2 := hJ.2.2.1
  have g2 := hJ.2.2.2
  clear hJ
  have e3 := (f2 h.n k3 (by omega)).trans b3
  have m3 : h.n < h2.n := by omega
  have mq : q < h2.n := by omega
  have pre2 : Pre h h2 := ⟨by omega, fun i hi => (f2 i (by omega) (by omega)).trans (pB.ob i hi)⟩
  simp (maxSteps := 1000000) -implicitDefEqProofs only [push_cast, seval, e3, rd_of e3, rd1_of e3, m3]
  with_reducible refine bcase_d (fun hb => ?_) (fun hb => ?_)
  · have hk : s.1 < b := by omega
    have hki : s.1 < c.list.length := by omega
    have hkn : s.1 < n := by omega
    obtain ⟨g0, hg0⟩ : ∃ g0, b - s.1 = g0 + 1 := ⟨b - s.1 - 1, by omega⟩
    rw [hg0, partL] at hP
    have hgD := getD_of c.list ⟨0, 0⟩ s.1 hki
    generalize hX : c.list.getD s.1 ⟨0, 0⟩ = X at *
    have hAF := fun (h3 : AH) (p : Pre h h3) hok1 => l07Arg_c c vA _ s.1 b X h3 (r.pre p) ht hsz (by omega) (by omega) hok1
    have hg := hcs_get s.2 0 n s.1 hkn
    rw [Nat.zero_add] at hg
    obtain ⟨k1, ek1⟩ : ∃ k1, k1 = s.1 + 1 := ⟨_, rfl⟩
    have w1 : IntKind.i64.wrap ((s.1 : Int) + 1) = (k1 : Int) := by rw [wrapSucc (by omega), ek1]
    rw [← ek1] at hP
    with_reducible refine hLst.use big pre2 hki (fun id off eB hlt hr => ?_)
    subst eB
    rw [← hgD] at hr
    simp only [encN] at hr
    have r0 := (rd_2 hr).1
    have r1 := (rd_2 hr).2
    simp (maxSteps := 1000000) -implicitDefEqProofs only [push_cast, seval, e3, rd_of e3, rd1_of e3, m3, hr, r0, r1, hlt]
    repeat (with_reducible refine And.intro ?_ ?_; · (first | omega | decide))
    have p3 : Pre h2 ((h2.alloc (AOb.cells [Value.int IntKind.i64 0, Value.int IntKind.i64 0] .solo h2.n)).set h2.n (AOb.cells [Value.int IntKind.i64 X.op, Value.int IntKind.i64 X.arg] .solo h2.n)) := ((Pre.refl h2).alloc _).set (Nat.le_refl _) _
    have x3 : ((h2.alloc (AOb.cells [Value.int IntKind.i64 0, Value.int IntKind.i64 0] .solo h2.n)).set h2.n (AOb.cells [Value.int IntKind.i64 X.op, Value.int IntKind.i64 X.arg] .solo h2.n)).ob h2.n = AOb.cells [Value.int IntKind.i64 X.op, Value.int IntKind.i64 X.arg] .solo h2.n := set_same _ _
    have nx : ((h2.alloc (AOb.cells [Value.int IntKind.i64 0, Value.int IntKind.i64 0] .solo h2.n)).set h2.n (AOb.cells [Value.int IntKind.i64 X.op, Value.int IntKind.i64 X.arg] .solo h2.n)).n = h2.n + 1 := rfl
    generalize (h2.alloc (AOb.cells [Value.int IntKind.i64 0, Value.int IntKind.i64 0] .solo h2.n)).set h2.n (AOb.cells [Value.int IntKind.i64 X.op, Value.int IntKind.i64 X.arg] .solo h2.n) = h3 at *
    have e33 : h3.ob h.n = _ := (p3.ob _ m3).trans e3
    have g3 : h3.ob q = _ := (p3.ob _ mq).trans g2
    have f3 : ∀ i, i < hB.n → i ≠ q → h3.ob i = hB.ob i := fun i hi hiq => (p3.ob i (by omega)).trans (f2 i hi hiq)
    have pre3 := pre2.trans p3
    have m33 : h.n < h3.n := by omega
    have mq3 : q < h3.n := by omega
    have mx3 : h2.n < h3.n := by omega
    clear e3 g2 f2 hr r0 r1 p3
    with_reducible refine CD.to (l01In_c _ _ _ _) ?_
    cases hop : inB X.op 1 24 with
    | false =>
      rw [insOk, hop] at hP
      simp (maxSteps := 1000000) -implicitDefEqProofs only [push_cast, seval]
      exact ⟨by rw [← hP]; rfl, pre3.keep⟩
    | true =>
    simp (maxSteps := 1000000) -implicitDefEqProofs only [push_cast, seval, x3, rd_of x3, rd1_of x3, mx3]
    with_reducible refine CD.to (l01In_c _ _ _ _) ?_
    cases har : inB X.arg 0 255 with
    | false =>
      rw [insOk, hop, har] at hP
      simp (maxSteps := 1000000) -implicitDefEqProofs only [push_cast, seval]
      exact ⟨by rw [← hP]; rfl, pre3.keep⟩
    | true =>
    have hok1 : insOk X = true := by rw [insOk, hop, har]; rfl
    rw [hok1, Bool.true_and] at hP
    have hrg := hok1
    simp only [insOk, inB, Bool.and_eq_true, decide_eq_true_eq] at hrg
    simp (maxSteps := 1000000) -implicitDefEqProofs only [push_cast, seval, x3, rd_of x3, rd1_of x3, mx3, e33, rd_of e33, rd1_of e33, m33, y1, y2]
    with_reducible refine CD.to (hAF h3 pre3 hok1) ?_
    clear hAF
    cases hAP : argP c.texts X s.1 b with
    | false =>
      rw [hAP] at hP
      simp (maxSteps := 1000000) -implicitDefEqProofs only [push_cast, seval]
      exact ⟨by rw [← hP]; rfl, pre3.keep⟩
    | true =>
    rw [hAP, if_pos rfl, stepP_eq] at hP
    simp (maxSteps := 1000000) -implicitDefEqProofs only [push_cast, seval, mq3, mx3, x3, rd_of x3, rd1_of x3, g3, rd_of g3, rd1_of g3, Nat.mul_one, hg, ll, hkn]
    repeat (with_reducible refine And.intro ?_ ?_; · (first | omega | decide))
    with_reducible refine bcase_d (fun hb2 => ?_) (fun hb2 => ?_)
    · rw [if_pos hb2] at hP
      simp (maxSteps := 1000000) -implicitDefEqProofs only [push_cast, seval, w1]
      exact ⟨(k1, s.2), by kernel_rfl, ⟨⟨by show a ≤ k1; omega, by show k1 ≤ b; omega, hO, by show partL c.texts c.list b (b - k1) k1 s.2 = res; rw [show b - k1 = g0 by omega]; exact hP⟩, by show hB.n ≤ h3.n; omega, f3, g3⟩, by show b - k1 < b - s.1; omega⟩
    rw [if_neg hb2] at hP
    have hO0 := hO s.1
    have hT := takesP_range hok1
    have hU := putsP_range X
    have w2 : IntKind.i64.wrap (s.2 s.1 - takesP X) = s.2 s.1 - takesP X := by rw [w64 (by omega) (by omega)]
    have w3 : IntKind.i64.wrap (s.2 s.1 - takesP X + putsP X) = s.2 s.1 - takesP X + putsP X := by rw [w64 (by omega) (by omega)]
    simp (maxSteps := 1000000) -implicitDefEqProofs only [push_cast, seval, mq3, mx3, x3, rd_of x3, rd1_of x3, g3, rd_of g3, rd1_of g3, Nat.mul_one, hg, ll, hkn]
    with_reducible refine CD.to (l07Needs_c X hok1 _) ?_
    simp (maxSteps := 1000000) -implicitDefEqProofs only [push_cast, seval, mq3, mx3, x3, rd_of x3, rd1_of x3, g3, rd_of g3, rd1_of g3, Nat.mul_one, hg, ll, hkn, w2, w3]
    repeat (with_reducible refine And.intro ?_ ?_; · (first | omega | decide))
    generalize hN : s.2 s.1 - takesP X + putsP X = N at *
    with_reducible refine bcase_d (fun hb3 => ?_) (fun hb3 => ?_)
    · rw [if_pos (.inl hb3)] at hP
      simp (maxSteps := 1000000) -implicitDefEqProofs only [push_cast, seval]
      exact ⟨by rw [← hP], pre3.keep⟩
    simp (maxSteps := 1000000) -implicitDefEqProofs only [push_cast, seval]
    with_reducible refine bcase_d (fun hb4 => ?_) (fun hb4 => ?_)
    · rw [if_pos (.inr hb4)] at hP
      simp (maxSteps := 1000000) -implicitDefEqProofs only [push_cast, seval]
      exact ⟨by rw [← hP], pre3.keep⟩
    rw [if_neg (by omega)] at hP
    have hx21 : jumpA X s.1 b := fun hx => by
      unfold argP at hAP
      have htx : texted X.op = false := by unfold texted named inB; rcases hx with hx | hx <;> rw [hx] <;> rfl
      rw [htx, if_neg (by decide), if_neg (by omega), if_pos hx, Bool.and_eq_true, decide_eq_true_eq, decide_eq_true_eq] at hAP
      exact ⟨X.arg.toNat, by omega, by omega, by omega⟩
    have hnx := nextP_le hk hx21
    obtain ⟨ar, har2⟩ := Int.eq_ofNat_of_zero_le hrg.2.1
    obtain ⟨R, hR⟩ : ∃ R, comesP N (nextP X s.1) s.2 = R := ⟨_, rfl⟩
    rw [hR] at hP
    have hnl : (nextP X s.1).length ≤ 2 := by unfold nextP; rw [List.length_append]; split <;> split <;> simp
    generalize enx : nextP X s.1 = nx at *
    unfold nextP at enx
    rw [har2, Int.toNat_natCast, ← ek1] at enx
    have p4 : Pre h3 (h3.alloc (.cells [] .solo h3.n)) := (Pre.refl h3).alloc _
    have gr4 : Gr h3.n (h3.alloc (.cells [] .solo h3.n)) (.slice (some ⟨h3.n, 0, none⟩) 0 1) 1 [] := .inr ⟨h3.n, 0, 0, rfl, Nat.le_refl _, Own.zero rfl 1⟩
    have n4 : (h3.alloc (.cells [] .solo h3.n)).n = h3.n + 1 := rfl
    simp (maxSteps := 1000000) -implicitDefEqProofs only [push_cast, seval]
    generalize h3.alloc (.cells [] .solo h3.n) = h4 at *
    have x4 : h4.ob h2.n = _ := (p4.ob _ mx3).trans x3
    have mx4 : h2.n < h4.n := by omega
    have g4 : h4.ob q = _ := (p4.ob _ mq3).trans g3
    have f4 : ∀ i, i < hB.n → i ≠ q → h4.ob i = hB.ob i := fun i hi hiq => (p4.ob i (by omega)).trans (f3 i hi hiq)
    have pre4 : ∀ i, i < h.n → h4.ob i = h.ob i := fun i hi => (p4.ob i (by omega)).trans (pre3.ob i hi)
    clear x3 g3 f3
    simp (maxSteps := 1000000) -implicitDefEqProofs only [push_cast, seval, x4, rd_of x4, rd1_of x4, mx4]
    with_reducible refine bcase_d (fun z23 => ?_) (fun z23 => ?_)
    · have z21 : (X.op = 21) = False := eq_false (by omega)
      have z22 : (X.op = 22) = False := eq_false (by omega)
      rw [if_neg (by omega), if_neg (by omega)] at enx
      obtain ⟨v5, ev5⟩ : ∃ v5, v5 = Value.slice (some ⟨h3.n, 0, none⟩) 0 1 := ⟨_, rfl⟩
      rw [← ev5] at gr4
      obtain ⟨h5, eh5⟩ : ∃ h5, h5 = h4 := ⟨_, rfl⟩
      have r5 : RdV h5 v5 1 encNa nx := by rw [eh5, ← enx]; exact Gr.rdv (l := []) gr4 (by decide) encI_len
      have v5n : ∀ i, atBlock v5 i → h3.n ≤ i := fun i hi => (gr4.range hi).1
      have g5 : h5.ob q = .cells (hcs s.2 0 n) .solo q := by rw [eh5]; exact g4
      have f5 : ∀ i, i < hB.n → i ≠ q → h5.ob i = hB.ob i := by rw [eh5]; exact f4
      have pre5 : ∀ i, i < h.n → h5.ob i = h.ob i := by rw [eh5]; exact pre4
      have hle5 : h3.n ≤ h5.n := by rw [eh5]; omega
      simp (maxSteps := 1000000) -implicitDefEqProofs only [push_cast, seval, x4, rd_of x4, rd1_of x4, mx4, z21, z22]
      rw [← eh5, ← ev5]
      clear eh5 ev5
      have r5l := r5.rde encI_len
      with_reducible refine Exists.elim r5l (fun A5 r5l => ?_)
      with_reducible refine Exists.elim r5l (fun c5 r5l => ?_)
      have ev := r5l.1
      clear r5l
      rw [ev]
      refine WC.loopA (by kernel_rfl) [15] [6, 115, 116, 117, 118, 119, 120, 121, 122, 123, 124, 125, 126, 127, 128, 129, 130, 131, 132, 133, 134, 135, 136, 137, 138, 139, 140, 141, 142, 143, 144, 145, 146] (fun t : Nat × (Nat → Int) => [.int .i64 (t.1 : Nat)]) (fun t h' => (t.1 ≤ nx.length ∧ comesP N (nx.drop t.1) t.2 = R ∧ HOk t.2) ∧ h5.n ≤ h'.n ∧ (∀ i, i < h5.n → i ≠ q → h'.ob i = h5.ob i) ∧ h'.ob q = .cells (hcs t.2 0 n) .solo q) (fun t => nx.length - t.1) (0, s.2) (by kernel_rfl) ⟨⟨Nat.zero_le _, hR, hO⟩, Nat.le_refl _, fun _ _ _ => rfl, g5⟩ ?_
      intro t g6 h6 hJ
      have ht1 := hJ.1.1
      have ht2 := hJ.1.2.1
      have hO6 := hJ.1.2.2
      have n6 := hJ.2.1
      have f6 := hJ.2.2.1
      have g6q := hJ.2.2.2
      clear hJ
      have r6 : RdV h6 v5 1 encNa nx := r5.keep n6 (fun i hi => f6 i (r5.lt hi) (by have := v5n i hi; omega))
      rw [ev] at r6
      have mq6 : q < h6.n := by omega
      have pre6 : Pre h h6 := ⟨by omega, fun i hi => (f6 i (by omega) (by omega)).trans (pre5 i hi)⟩
      simp (maxSteps := 1000000) -implicitDefEqProofs only [push_cast, seval]
      with_reducible refine bcase_d (fun hb6 => ?_) (fun hb6 => ?_)
      · have hi6 : t.1 < nx.length := by omega
        with_reducible refine rdv_at r6 encI_len hi6 (fun id6 off6 c6 e6 hlt6 hr6 => ?_)
        have hm6 := hnx nx[t.1] (List.getElem_mem hi6)
        rw [comesP_next hi6] at ht2
        generalize nx[t.1] = j at *
        simp only [encNa, Nat.mul_one] at hr6
        have r06 := rd_1 hr6
        have hgj := hcs_get t.2 0 n j (by omega)
        rw [Nat.zero_add] at hgj
        have hjn : j < n := by omega
        rw [e6]
        simp (maxSteps := 1000000) -implicitDefEqProofs only [push_cast, seval, hr6, r06, hlt6, mq6, g6q, rd_of g6q, rd1_of g6q, Nat.mul_one, hgj, ll, hjn]
        repeat (with_reducible refine And.intro ?_ ?_; · (first | omega | decide))
        with_reducible refine bcase_d (fun hb7 => ?_) (fun hb7 => ?_)
        · simp (maxSteps := 1000000) -implicitDefEqProofs only [push_cast, seval, hr6, r06, hlt6, mq6, g6q, rd_of g6q, rd1_of g6q, Nat.mul_one, hgj, ll, hjn]
          repeat (with_reducible refine And.intro ?_ ?_; · (first | omega | decide))
          with_reducible refine bcase_d (fun hb8 => ?_) (fun hb8 => ?_)
          · rw [comeP_yes (by omega)] at ht2
            simp only at ht2
            simp (maxSteps := 1000000) -implicitDefEqProofs only [push_cast, seval, hr6, r06, hlt6, mq6, g6q, rd_of g6q, rd1_of g6q, Nat.mul_one, hgj, ll, hjn]
            repeat (with_reducible refine And.intro ?_ ?_; · (first | omega | decide))
            rw [wrapSucc (by omega), hcs_set t.2 0 n j j N (Nat.zero_add j)]
            exact ⟨(t.1 + 1, updH t.2 j N), by kernel_rfl, ⟨⟨by show t.1 + 1 ≤ nx.length; omega, ht2, hO6.upd (by omega) (by omega)⟩, by show h5.n ≤ h6.n; omega, fun i hi hiq => (set_ne _ hiq).trans (f6 i hi hiq), by first | rfl | exact set_same _ _⟩, by show nx.length - (t.1 + 1) < nx.length - t.1; omega⟩
          · rw [comeP_no ⟨hb7, hb8⟩] at ht2
            rw [← ht2] at hP
            simp (maxSteps := 1000000) -implicitDefEqProofs only [push_cast, seval]
            exact ⟨by rw [← hP], pre6.keep⟩
        · rw [comeP_yes (by omega)] at ht2
          simp only at ht2
          simp (maxSteps := 1000000) -implicitDefEqProofs only [push_cast, seval, hr6, r06, hlt6, mq6, g6q, rd_of g6q, rd1_of g6q, Nat.mul_one, hgj, ll, hjn]
          repeat (with_reducible refine And.intro ?_ ?_; · (first | omega | decide))
          rw [wrapSucc (by omega), hcs_set t.2 0 n j j N (Nat.zero_add j)]
          exact ⟨(t.1 + 1, updH t.2 j N), by kernel_rfl, ⟨⟨by show t.1 + 1 ≤ nx.length; omega, ht2, hO6.upd (by omega) (by omega)⟩, by show h5.n ≤ h6.n; omega, fun i hi hiq => (set_ne _ hiq).trans (f6 i hi hiq), by first | rfl | exact set_same _ _⟩, by show nx.length - (t.1 + 1) < nx.length - t.1; omega⟩
      · have eD : nx.drop t.1 = [] := List.drop_eq_nil_of_le (by omega)
        rw [eD, comesP] at ht2
        rw [← ht2] at hP
        simp only at hP
        simp (maxSteps := 1000000) -implicitDefEqProofs only [push_cast, seval, w1]
        exact ⟨(k1, t.2), by kernel_rfl, ⟨⟨by show a ≤ k1; omega, by show k1 ≤ b; omega, hO6, by show partL c.texts c.list b (b - k1) k1 _ = res; rw [show b - k1 = g0 by omega]; exact hP⟩, by show hB.n ≤ h6.n; omega, fun i hi hiq => (f6 i (by omega) hiq).trans (f5 i hi hiq), g6q⟩, by show b - k1 < b - s.1; omega⟩
    simp (maxSteps := 1000000) -implicitDefEqProofs only [push_cast, seval, x4, rd_of x4, rd1_of x4, mx4]
    with_reducible refine bcase_d (fun z22 => ?_) (fun z22 => ?_)
    · have z21 : (X.op = 21) = False := eq_false (by omega)
      rw [if_neg (by omega), if_pos (.inr z22)] at enx
      simp (maxSteps := 1000000) -implicitDefEqProofs only [push_cast, seval, x4, rd_of x4, rd1_of x4, mx4, z21, z22, har2]
      refine Gr.app1 (h0 := ⟨h3.n, h4.ob⟩) si62 (by decide) (by decide) (notInt_sl und62) gr4 ⟨by show h3.n ≤ h4.n; omega, fun _ _ => rfl⟩ (m := 1) rfl (by simp) (by decide) (fun h5 grh5 owh5 _ nh5 fh5 => ?_)
      have eLh5 : ([] : List Value).length / 1 + 1 = 1 := by simp
      rw [eLh5] at grh5
      have grh5 : Gr h3.n h5 (.slice (some ⟨h4.n + 1, 0, none⟩) 1 1) 1 [.int .i64 (ar : Nat)] := grh5
      try rw [eLh5]
      have fbh5 : ∀ i, i < h3.n → h5.ob i = h4.ob i := fun i hi => fh5 i (by omega) (fun e' => by have := (gr4.range e').1; omega)
      clear owh5 fh5
      obtain ⟨v5, ev5⟩ : ∃ v5, v5 = Value.slice (some ⟨h4.n + 1, 0, none⟩) 1 1 := ⟨_, rfl⟩
      rw [← ev5] at grh5 ⊢
      clear ev5 eLh5
      have r5 : RdV h5 v5 1 encNa nx := by rw [← enx]; exact Gr.rdv (l := [ar]) grh5 (by decide) encI_len
      have v5n : ∀ i, atBlock v5 i → h3.n ≤ i := fun i hi => (grh5.range hi).1
      have g5 : h5.ob q = .cells (hcs s.2 0 n) .solo q := (fbh5 q mq3).trans g4
      have f5 : ∀ i, i < hB.n → i ≠ q → h5.ob i = hB.ob i := fun i hi hiq => (fbh5 i (by omega)).trans (f4 i hi hiq)
      have pre5 : ∀ i, i < h.n → h5.ob i = h.ob i := fun i hi => (fbh5 i (by omega)).trans (pre4 i hi)
      have hle5 : h3.n ≤ h5.n := by omega
      have x5 : h5.ob h2.n = _ := (fbh5 h2.n mx3).trans x4
      have mx5 : h2.n < h5.n := by omega
      simp (maxSteps := 1000000) -implicitDefEqProofs only [push_cast, seval, x5, rd_of x5, rd1_of x5, mx5, z21, z22]
      have r5l := r5.rde encI_len
      with_reducible refine Exists.elim r5l (fun A5 r5l => ?_)
      with_reducible refine Exists.elim r5l (fun c5 r5l => ?_)
      have ev := r5l.1
      clear r5l
      rw [ev]
      refine WC.loopA (by kernel_rfl) [15] [6, 115, 116, 117, 118, 119, 120, 121, 122, 123, 124, 125, 126, 127, 128, 129, 130, 131, 132, 133, 134, 135, 136, 137, 138, 139, 140, 141, 142, 143, 144, 145, 146] (fun t : Nat × (Nat → Int) => [.int .i64 (t.1 : Nat)]) (fun t h' => (t.1 ≤ nx.length ∧ comesP N (nx.drop t.1) t.2 = R ∧ HOk t.2) ∧ h5.n ≤ h'.n ∧ (∀ i, i < h5.n → i ≠ q → h'.ob i = h5.ob i) ∧ h'.ob q = .cells (hcs t.2 0 n) .solo q) (fun t => nx.length - t.1) (0, s.2) (by kernel_rfl) ⟨⟨Nat.zero_le _, hR, hO⟩, Nat.le_refl _, fun _ _ _ => rfl, g5⟩ ?_
      intro t g6 h6 hJ
      have ht1 := hJ.1.1
      have ht2 := hJ.1.2.1
      have hO6 := hJ.1.2.2
      have n6 := hJ.2.1
      have f6 := hJ.2.2.1
      have g6q := hJ.2.2.2
      clear hJ
      have r6 : RdV h6 v5 1 encNa nx := r5.keep n6 (fun i hi => f6 i (r5.lt hi) (by have := v5n i hi; omega))
      rw [ev] at r6
      have mq6 : q < h6.n := by omega
      have pre6 : Pre h h6 := ⟨by omega, fun i hi => (f6 i (by omega) (by omega)).trans (pre5 i hi)⟩
      simp (maxSteps := 1000000) -implicitDefEqProofs only [push_cast, seval]
      with_reducible refine bcase_d (fun hb6 => ?_) (fun hb6 => ?_)
      · have hi6 : t.1 < nx.length := by omega
        with_reducible refine rdv_at r6 encI_len hi6 (fun id6 off6 c6 e6 hlt6 hr6 => ?_)
        have hm6 := hnx nx[t.1] (List.getElem_mem hi6)
        rw [comesP_next hi6] at ht2
        generalize nx[t.1] = j at *
        simp only [encNa, Nat.mul_one] at hr6
        have r06 := rd_1 hr6
        have hgj := hcs_get t.2 0 n j (by omega)
        rw [Nat.zero_add] at hgj
        have hjn : j < n := by omega
        rw [e6]
        simp (maxSteps := 1000000) -implicitDefEqProofs only [push_cast, seval, hr6, r06, hlt6, mq6, g6q, rd_of g6q, rd1_of g6q, Nat.mul_one, hgj, ll, hjn]
        repeat (with_reducible refine And.intro ?_ ?_; · (first | omega | decide))
        with_reducible refine bcase_d (fun hb7 => ?_) (fun hb7 => ?_)
        · simp (maxSteps := 1000000) -implicitDefEqProofs only [push_cast, seval, hr6, r06, hlt6, mq6, g6q, rd_of g6q, rd1_of g6q, Nat.mul_one, hgj, ll, hjn]
          repeat (with_reducible refine And.intro ?_ ?_; · (first | omega | decide))
          with_reducible refine bcase_d (fun hb8 => ?_) (fun hb8 => ?_)
          · rw [comeP_yes (by omega)] at ht2
            simp only at ht2
            simp (maxSteps := 1000000) -implicitDefEqProofs only [push_cast, seval, hr6, r06, hlt6, mq6, g6q, rd_of g6q, rd1_of g6q, Nat.mul_one, hgj, ll, hjn]
            repeat (with_reducible refine And.intro ?_ ?_; · (first | omega | decide))
            rw [wrapSucc (by omega), hcs_set t.2 0 n j j N (Nat.zero_add j)]
            exact ⟨(t.1 + 1, updH t.2 j N), by kernel_rfl, ⟨⟨by show t.1 + 1 ≤ nx.length; omega, ht2, hO6.upd (by omega) (by omega)⟩, by show h5.n ≤ h6.n; omega, fun i hi hiq => (set_ne _ hiq).trans (f6 i hi hiq), by first | rfl | exact set_same _ _⟩, by show nx.length - (t.1 + 1) < nx.length - t.1; omega⟩
          · rw [comeP_no ⟨hb7, hb8⟩] at ht2
            rw [← ht2] at hP
            simp (maxSteps := 1000000) -implicitDefEqProofs only [push_cast, seval]
            exact ⟨by rw [← hP], pre6.keep⟩
        · rw [comeP_yes (by omega)] at ht2
          simp only at ht2
          simp (maxSteps := 1000000) -implicitDefEqProofs only [push_cast, seval, hr6, r06, hlt6, mq6, g6q, rd_of g6q, rd1_of g6q, Nat.mul_one, hgj, ll, hjn]
          repeat (with_reducible refine And.intro ?_ ?_; · (first | omega | decide))
          rw [wrapSucc (by omega), hcs_set t.2 0 n j j N (Nat.zero_add j)]
          exact ⟨(t.1 + 1, updH t.2 j N), by kernel_rfl, ⟨⟨by show t.1 + 1 ≤ nx.length; omega, ht2, hO6.upd (by omega) (by omega)⟩, by show h5.n ≤ h6.n; omega, fun i hi hiq => (set_ne _ hiq).trans (f6 i hi hiq), by first | rfl | exact set_same _ _⟩, by show nx.length - (t.1 + 1) < nx.length - t.1; omega⟩
      · have eD : nx.drop t.1 = [] := List.drop_eq_nil_of_le (by omega)
        rw [eD, comesP] at ht2
        rw [← ht2] at hP
        simp only at hP
        simp (maxSteps := 1000000) -implicitDefEqProofs only [push_cast, seval, w1]
        exact ⟨(k1, t.2), by kernel_rfl, ⟨⟨by show a ≤ k1; omega, by show k1 ≤ b; omega, hO6, by show partL c.texts c.list b (b - k1) k1 _ = res; rw [show b - k1 = g0 by omega]; exact hP⟩, by show hB.n ≤ h6.n; omega, fun i hi hiq => (f6 i (by omega) hiq).trans (f5 i hi hiq), g6q⟩, by show b - k1 < b - s.1; omega⟩
    simp (maxSteps := 1000000) -implicitDefEqProofs only [push_cast, seval, x4, rd_of x4, rd1_of x4, mx4, w1]
    refine Gr.app1 (h0 := ⟨h3.n, h4.ob⟩) si62 (by decide) (by decide) (notInt_sl und62) gr4 ⟨by show h3.n ≤ h4.n; omega, fun _ _ => rfl⟩ (m := 1) rfl (by simp) (by decide) (fun hm grhm owhm _ nhm fhm => ?_)
    have eLhm : ([] : List Value).length / 1 + 1 = 1 := by simp
    rw [eLhm] at grhm
    have grhm : Gr h3.n hm (.slice (some ⟨h4.n + 1, 0, none⟩) 1 1) 1 [.int .i64 (k1 : Nat)] := grhm
    try rw [eLhm]
    have fbhm : ∀ i, i < h3.n → hm.ob i = h4.ob i := fun i hi => fhm i (by omega) (fun e' => by have := (gr4.range e').1; omega)
    clear owhm fhm
    obtain ⟨vm, evm⟩ : ∃ vm, vm = Value.slice (some ⟨h4.n + 1, 0, none⟩) 1 1 := ⟨_, rfl⟩
    rw [← evm] at grhm ⊢
    clear evm eLhm
    have gm : hm.ob q = .cells (hcs s.2 0 n) .solo q := (fbhm q mq3).trans g4
    have fm : ∀ i, i < hB.n → i ≠ q → hm.ob i = hB.ob i := fun i hi hiq => (fbhm i (by omega)).trans (f4 i hi hiq)
    have prem : ∀ i, i < h.n → hm.ob i = h.ob i := fun i hi => (fbhm i (by omega)).trans (pre4 i hi)
    have xm : hm.ob h2.n = _ := (fbhm h2.n mx3).trans x4
    have mxm : h2.n < hm.n := by omega
    rw [if_pos ⟨z23, z22⟩] at enx
    simp (maxSteps := 1000000) -implicitDefEqProofs only [push_cast, seval, xm, rd_of xm, rd1_of xm, mxm]
    with_reducible refine bcase_d (fun z21 => ?_) (fun z21 => ?_)
    · rw [if_pos (.inl z21)] at enx
      simp (maxSteps := 1000000) -implicitDefEqProofs only [push_cast, seval, xm, rd_of xm, rd1_of xm, mxm, har2]
      refine Gr.app1 (h0 := ⟨h3.n, hm.ob⟩) si62 (by decide) (by decide) (notInt_sl und62) grhm ⟨by show h3.n ≤ hm.n; omega, fun _ _ => rfl⟩ (m := 1) rfl (by simp) (by decide) (fun h5 grh5 owh5 _ nh5 fh5 => ?_)
      have eLh5 : ([.int .i64 (k1 : Nat)] : List Value).length / 1 + 1 = 2 := by simp
      rw [eLh5] at grh5
      have grh5 : Gr h3.n h5 (.slice (some ⟨hm.n + 1, 0, none⟩) 2 1) 1 [.int .i64 (k1 : Nat), .int .i64 (ar : Nat)] := grh5
      try rw [eLh5]
      have fbh5 : ∀ i, i < h3.n → h5.ob i = hm.ob i := fun i hi => fh5 i (by omega) (fun e' => by have := (grhm.range e').1; omega)
      clear owh5 fh5
      obtain ⟨v5, ev5⟩ : ∃ v5, v5 = Value.slice (some ⟨hm.n + 1, 0, none⟩) 2 1 := ⟨_, rfl⟩
      rw [← ev5] at grh5 ⊢
      clear ev5 eLh5
      have r5 : RdV h5 v5 1 encNa nx := by rw [← enx]; exact Gr.rdv (l := [k1, ar]) grh5 (by decide) encI_len
      have v5n : ∀ i, atBlock v5 i → h3.n ≤ i := fun i hi => (grh5.range hi).1
      have g5 : h5.ob q = .cells (hcs s.2 0 n) .solo q := (fbh5 q mq3).trans gm
      have f5 : ∀ i, i < hB.n → i ≠ q → h5.ob i = hB.ob i := fun i hi hiq => (fbh5 i (by omega)).trans (fm i hi hiq)
      have pre5 : ∀ i, i < h.n → h5.ob i = h.ob i := fun i hi => (fbh5 i (by omega)).trans (prem i hi)
      have hle5 : h3.n ≤ h5.n := by omega
      have x5 : h5.ob h2.n = _ := (fbh5 h2.n mx3).trans xm
      have mx5 : h2.n < h5.n := by omega
      simp (maxSteps := 1000000) -implicitDefEqProofs only [push_cast, seval, x5, rd_of x5, rd1_of x5, mx5]
      have r5l := r5.rde encI_len
      with_reducible refine Exists.elim r5l (fun A5 r5l => ?_)
      with_reducible refine Exists.elim r5l (fun c5 r5l => ?_)
      have ev := r5l.1
      clear r5l
      rw [ev]
      refine WC.loopA (by kernel_rfl) [15] [6, 115, 116, 117, 118, 119, 120, 121, 122, 123, 124, 125, 126, 127, 128, 129, 130, 131, 132, 133, 134, 135, 136, 137, 138, 139, 140, 141, 142, 143, 144, 145, 146] (fun t : Nat × (Nat → Int) => [.int .i64 (t.1 : Nat)]) (fun t h' => (t.1 ≤ nx.length ∧ comesP N (nx.drop t.1) t.2 = R ∧ HOk t.2) ∧ h5.n ≤ h'.n ∧ (∀ i, i < h5.n → i ≠ q → h'.ob i = h5.ob i) ∧ h'.ob q = .cells (hcs t.2 0 n) .solo q) (fun t => nx.length - t.1) (0, s.2) (by kernel_rfl) ⟨⟨Nat.zero_le _, hR, hO⟩, Nat.le_refl _, fun _ _ _ => rfl, g5⟩ ?_
      intro t g6 h6 hJ
      have ht1 := hJ.1.1
      have ht2 := hJ.1.2.1
      have hO6 := hJ.1.2.2
      have n6 := hJ.2.1
      have f6 := hJ.2.2.1
      have g6q := hJ.2.2.2
      clear hJ
      have r6 : RdV h6 v5 1 encNa nx := r5.keep n6 (fun i hi => f6 i (r5.lt hi) (by have := v5n i hi; omega))
      rw [ev] at r6
      have mq6 : q < h6.n := by omega
      have pre6 : Pre h h6 := ⟨by omega, fun i hi => (f6 i (by omega) (by omega)).trans (pre5 i hi)⟩
      simp (maxSteps := 1000000) -implicitDefEqProofs only [push_cast, seval]
      with_reducible refine bcase_d (fun hb6 => ?_) (fun hb6 => ?_)
      · have hi6 : t.1 < nx.length := by omega
        with_reducible refine rdv_at r6 encI_len hi6 (fun id6 off6 c6 e6 hlt6 hr6 => ?_)
        have hm6 := hnx nx[t.1] (List.getElem_mem hi6)
        rw [comesP_next hi6] at ht2
        generalize nx[t.1] = j at *
        simp only [encNa, Nat.mul_one] at hr6
        have r06 := rd_1 hr6
        have hgj := hcs_get t.2 0 n j (by omega)
        rw [Nat.zero_add] at hgj
        have hjn : j < n := by omega
        rw [e6]
        simp (maxSteps := 1000000) -implicitDefEqProofs only [push_cast, seval, hr6, r06, hlt6, mq6, g6q, rd_of g6q, rd1_of g6q, Nat.mul_one, hgj, ll, hjn]
        repeat (with_reducible refine And.intro ?_ ?_; · (first | omega | decide))
        with_reducible refine bcase_d (fun hb7 => ?_) (fun hb7 => ?_)
        · simp (maxSteps := 1000000) -implicitDefEqProofs only [push_cast, seval, hr6, r06, hlt6, mq6, g6q, rd_of g6q, rd1_of g6q, Nat.mul_one, hgj, ll, hjn]
          repeat (with_reducible refine And.intro ?_ ?_; · (first | omega | decide))
          with_reducible refine bcase_d (fun hb8 => ?_) (fun hb8 => ?_)
          · rw [comeP_yes (by omega)] at ht2
            simp only at ht2
            simp (maxSteps := 1000000) -implicitDefEqProofs only [push_cast, seval, hr6, r06, hlt6, mq6, g6q, rd_of g6q, rd1_of g6q, Nat.mul_one, hgj, ll, hjn]
            repeat (with_reducible refine And.intro ?_ ?_; · (first | omega | decide))
            rw [wrapSucc (by omega), hcs_set t.2 0 n j j N (Nat.zero_add j)]
            exact ⟨(t.1 + 1, updH t.2 j N), by kernel_rfl, ⟨⟨by show t.1 + 1 ≤ nx.length; omega, ht2, hO6.upd (by omega) (by omega)⟩, by show h5.n ≤ h6.n; omega, fun i hi hiq => (set_ne _ hiq).trans (f6 i hi hiq), by first | rfl | exact set_same _ _⟩, by show nx.length - (t.1 + 1) < nx.length - t.1; omega⟩
          · rw [comeP_no ⟨hb7, hb8⟩] at ht2
            rw [← ht2] at hP
            simp (maxSteps := 1000000) -implicitDefEqProofs only [push_cast, seval]
            exact ⟨by rw [← hP], pre6.keep⟩
        · rw [comeP_yes (by omega)] at ht2
          simp only at ht2
          simp (maxSteps := 1000000) -implicitDefEqProofs only [push_cast, seval, hr6, r06, hlt6, mq6, g6q, rd_of g6q, rd1_of g6q, Nat.mul_one, hgj, ll, hjn]
          repeat (with_reducible refine And.intro ?_ ?_; · (first | omega | decide))
          rw [wrapSucc (by omega), hcs_set t.2 0 n j j N (Nat.zero_add j)]
          exact ⟨(t.1 + 1, updH t.2 j N), by kernel_rfl, ⟨⟨by show t.1 + 1 ≤ nx.length; omega, ht2, hO6.upd (by omega) (by omega)⟩, by show h5.n ≤ h6.n; omega, fun i hi hiq => (set_ne _ hiq).trans (f6 i hi hiq), by first | rfl | exact set_same _ _⟩, by show nx.length - (t.1 + 1) < nx.length - t.1; omega⟩
      · have eD : nx.drop t.1 = [] := List.drop_eq_nil_of_le (by omega)
        rw [eD, comesP] at ht2
        rw [← ht2] at hP
        simp only at hP
        simp (maxSteps := 1000000) -implicitDefEqProofs only [push_cast, seval, w1]
        exact ⟨(k1, t.2), by kernel_rfl, ⟨⟨by show a ≤ k1; omega, by show k1 ≤ b; omega, hO6, by show partL c.texts c.list b (b - k1) k1 _ = res; rw [show b - k1 = g0 by omega]; exact hP⟩, by show hB.n ≤ h6.n; omega, fun i hi hiq => (f6 i (by omega) hiq).trans (f5 i hi hiq), g6q⟩, by show b - k1 < b - s.1; omega⟩
    · rw [if_neg (by omega), List.append_nil] at enx
      have z22' : (X.op = 22) = False := eq_false z22
      obtain ⟨v5, ev5⟩ : ∃ v5, v5 = vm := ⟨_, rfl⟩
      obtain ⟨h5, eh5⟩ : ∃ h5, h5 = hm := ⟨_, rfl⟩
      have r5 : RdV h5 v5 1 encNa nx := by rw [eh5, ev5, ← enx]; exact Gr.rdv (l := [k1]) grhm (by decide) encI_len
      have v5n : ∀ i, atBlock v5 i → h3.n ≤ i := fun i hi => by rw [ev5] at hi; exact (grhm.range hi).1
      have g5 : h5.ob q = .cells (hcs s.2 0 n) .solo q := by rw [eh5]; exact gm
      have f5 : ∀ i, i < hB.n → i ≠ q → h5.ob i = hB.ob i := by rw [eh5]; exact fm
      have pre5 : ∀ i, i < h.n → h5.ob i = h.ob i := by rw [eh5]; exact prem
      have hle5 : h3.n ≤ h5.n := by rw [eh5]; omega
      simp (maxSteps := 1000000) -implicitDefEqProofs only [push_cast, seval, xm, rd_of xm, rd1_of xm, mxm, z22']
      rw [← eh5, ← ev5]
      clear eh5 ev5
      have r5l := r5.rde encI_len
      with_reducible refine Exists.elim r5l (fun A5 r5l => ?_)
      with_reducible refine Exists.elim r5l (fun c5 r5l => ?_)
      have ev := r5l.1
      clear r5l
      rw [ev]
      refine WC.loopA (by kernel_rfl) [15] [6, 115, 116, 117, 118, 119, 120, 121, 122, 123, 124, 125, 126, 127, 128, 129, 130, 131, 132, 133, 134, 135, 136, 137, 138, 139, 140, 141, 142, 143, 144, 145, 146] (fun t : Nat × (Nat → Int) => [.int .i64 (t.1 : Nat)]) (fun t h' => (t.1 ≤ nx.length ∧ comesP N (nx.drop t.1) t.2 = R ∧ HOk t.2) ∧ h5.n ≤ h'.n ∧ (∀ i, i < h5.n → i ≠ q → h'.ob i = h5.ob i) ∧ h'.ob q = .cells (hcs t.2 0 n) .solo q) (fun t => nx.length - t.1) (0, s.2) (by kernel_rfl) ⟨⟨Nat.zero_le _, hR, hO⟩, Nat.le_refl _, fun _ _ _ => rfl, g5⟩ ?_
      intro t g6 h6 hJ
      have ht1 := hJ.1.1
      have ht2 := hJ.1.2.1
      have hO6 := hJ.1.2.2
      have n6 := hJ.2.1
      have f6 := hJ.2.2.1
      have g6q := hJ.2.2.2
      clear hJ
      have r6 : RdV h6 v5 1 encNa nx := r5.keep n6 (fun i hi => f6 i (r5.lt hi) (by have := v5n i hi; omega))
      rw [ev] at r6
      have mq6 : q < h6.n := by omega
      have pre6 : Pre h h6 := ⟨by omega, fun i hi => (f6 i (by omega) (by omega)).trans (pre5 i hi)⟩
      simp (maxSteps := 1000000) -implicitDefEqProofs only [push_cast, seval]
      with_reducible refine bcase_d (fun hb6 => ?_) (fun hb6 => ?_)
      · have hi6 : t.1 < nx.length := by omega
        with_reducible refine rdv_at r6 encI_len hi6 (fun id6 off6 c6 e6 hlt6 hr6 => ?_)
        have hm6 := hnx nx[t.1] (List.getElem_mem hi6)
        rw [comesP_next hi6] at ht2
        generalize nx[t.1] = j at *
        simp only [encNa, Nat.mul_one] at hr6
        have r06 := rd_1 hr6
        have hgj := hcs_get t.2 0 n j (by omega)
        rw [Nat.zero_add] at hgj
        have hjn : j < n := by omega
        rw [e6]
        simp (maxSteps := 1000000) -implicitDefEqProofs only [push_cast, seval, hr6, r06, hlt6, mq6, g6q, rd_of g6q, rd1_of g6q, Nat.mul_one, hgj, ll, hjn]
        repeat (with_reducible refine And.intro ?_ ?_; · (first | omega | decide))
        with_reducible refine bcase_d (fun hb7 => ?_) (fun hb7 => ?_)
        · simp (maxSteps := 1000000) -implicitDefEqProofs only [push_cast, seval, hr6, r06, hlt6, mq6, g6q, rd_of g6q, rd1_of g6q, Nat.mul_one, hgj, ll, hjn]
          repeat (with_reducible refine And.intro ?_ ?_; · (first | omega | decide))
          with_reducible refine bcase_d (fun hb8 => ?_) (fun hb8 => ?_)
          · rw [comeP_yes (by omega)] at ht2
            simp only at ht2
            simp (maxSteps := 1000000) -implicitDefEqProofs only [push_cast, seval, hr6, r06, hlt6, mq6, g6q, rd_of g6q, rd1_of g6q, Nat.mul_one, hgj, ll, hjn]
            repeat (with_reducible refine And.intro ?_ ?_; · (first | omega | decide))
            rw [wrapSucc (by omega), hcs_set t.2 0 n j j N (Nat.zero_add j)]
            exact ⟨(t.1 + 1, updH t.2 j N), by kernel_rfl, ⟨⟨by show t.1 + 1 ≤ nx.length; omega, ht2, hO6.upd (by omega) (by omega)⟩, by show h5.n ≤ h6.n; omega, fun i hi hiq => (set_ne _ hiq).trans (f6 i hi hiq), by first | rfl | exact set_same _ _⟩, by show nx.length - (t.1 + 1) < nx.length - t.1; omega⟩
          · rw [comeP_no ⟨hb7, hb8⟩] at ht2
            rw [← ht2] at hP
            simp (maxSteps := 1000000) -implicitDefEqProofs only [push_cast, seval]
            exact ⟨by rw [← hP], pre6.keep⟩
        · rw [comeP_yes (by omega)] at ht2
          simp only at ht2
          simp (maxSteps := 1000000) -implicitDefEqProofs only [push_cast, seval, hr6, r06, hlt6, mq6, g6q, rd_of g6q, rd1_of g6q, Nat.mul_one, hgj, ll, hjn]
          repeat (with_reducible refine And.intro ?_ ?_; · (first | omega | decide))
          rw [wrapSucc (by omega), hcs_set t.2 0 n j j N (Nat.zero_add j)]
          exact ⟨(t.1 + 1, updH t.2 j N), by kernel_rfl, ⟨⟨by show t.1 + 1 ≤ nx.length; omega, ht2, hO6.upd (by omega) (by omega)⟩, by show h5.n ≤ h6.n; omega, fun i hi hiq => (set_ne _ hiq).trans (f6 i hi hiq), by first | rfl | exact set_same _ _⟩, by show nx.length - (t.1 + 1) < nx.length - t.1; omega⟩
      · have eD : nx.drop t.1 = [] := List.drop_eq_nil_of_le (by omega)
        rw [eD, comesP] at ht2
        rw [← ht2] at hP
        simp only at hP
        simp (maxSteps := 1000000) -implicitDefEqProofs only [push_cast, seval, w1]
        exact ⟨(k1, t.2), by kernel_rfl, ⟨⟨by show a ≤ k1; omega, by show k1 ≤ b; omega, hO6, by show partL c.texts c.list b (b - k1) k1 _ = res; rw [show b - k1 = g0 by omega]; exact hP⟩, by show hB.n ≤ h6.n; omega, fun i hi hiq => (f6 i (by omega) hiq).trans (f5 i hi hiq), g6q⟩, by show b - k1 < b - s.1; omega⟩
  · have eb : s.1 = b := by omega
    rw [eb, Nat.sub_self] at hP
    have hg := hcs_get s.2 0 n b (by omega)
    rw [Nat.zero_add] at hg
    simp (maxSteps := 1000000) -implicitDefEqProofs only [push_cast, seval, mq, g2, rd_of g2, rd1_of g2, Nat.mul_one, hg, ll]
    exact ⟨by omega, by omega, by rw [← hP]; rfl, pre2.keep⟩
end Go.Proofs.YtdlpdfclljnmhaaGreat
namespace Go.Proofs.YtdlpdfclljnmhaaGreat
open Go Go.Sim Go.Proofs
set_option linter.unusedSimpArgs false
set_option linter.unusedVariables false
set_option maxRecDepth 100000
set_option maxHeartbeats 1000000
theorem CodeOk_s (c : Cod) (vA vB : Value) (h : AH) (r : RdC h vA vB c) (ht : c.texts.length ≤ 1048576) (hl : c.list.length ≤ 1048576) (hsz : ∀ s ∈ c.texts, s.size ≤ maxLen) :
    CD Tryz.prog 49 [.agg #[vA, vB, .int .i64 c.bgn, .int .i64 c.line, .int .i64 c.fin]] h (.bool (codeOk c)) h := by
  refine CD.withBig (fun big => ?_)
  refine CD.quiet ?_ (low_bool _ _)
  have y1 := r.texts.one
  have y2 := rdv_cells r.texts
  have y3 := r.list.one
  have y4 := rdv_cells r.list
  obtain ⟨A, cA, rfl, hA⟩ := r.texts.rde (fun _ => rfl)
  obtain ⟨B, cB, rfl, hB⟩ := r.list.rde (fun _ => rfl)
  refine CC.ofN Tryz.func49 Tryz.ntmps49 Tryz.results49 rfl (by decide) (by kernel_rfl) ?_
  simp (maxSteps := 1000000) -implicitDefEqProofs only [push_cast, seval]
  have pA : Pre h (h.alloc (.cells [.slice A c.texts.length cA, .slice B c.list.length cB, .int .i64 c.bgn, .int .i64 c.line, .int .i64 c.fin] .solo h.n)) := (Pre.refl h).alloc _
  refine WC.loopA (by kernel_rfl) [3] [2, 4, 5, 6, 7, 8, 9, 10, 11, 12, 13, 14, 15, 16, 17] (fun i : Nat => [.int .i64 i]) (fun i h' => (i ≤ c.texts.length ∧ ∀ j (hj : j < c.texts.length), j < i → c.texts[j].size ≤ 30) ∧ Pre (h.alloc (.cells [.slice A c.texts.length cA, .slice B c.list.length cB, .int .i64 c.bgn, .int .i64 c.line, .int .i64 c.fin] .solo h.n)) h') (fun i => c.texts.length - i) 0 (by kernel_rfl) ⟨⟨Nat.zero_le _, fun j hj h0 => by omega⟩, Pre.refl _⟩ ?_
  intro i g h1 hJ
  have hi := hJ.1.1
  have hj := hJ.1.2
  have p1 := hJ.2
  clear hJ
  have e1 : h1.ob h.n = _ := (p1.ob _ (lt_alloc _)).trans (alloc_same _)
  have l1 : h.n < h1.n := Nat.lt_of_lt_of_le (lt_alloc _) p1.n
  simp (maxSteps := 1000000) -implicitDefEqProofs only [push_cast, seval, e1, rd_of e1, rd1_of e1, l1]
  with_reducible refine bcase_d (fun hb => ?_) (fun hb => ?_)
  · have hi' : i < c.texts.length := by omega
    with_reducible refine hA.use big (pA.trans p1) hi' (fun id off eA hlt hr => ?_)
    subst eA
    simp only [encTx] at hr
    have r0 := rd_1 hr
    simp (maxSteps := 1000000) -implicitDefEqProofs only [push_cast, seval, e1, rd_of e1, rd1_of e1, l1, hr, r0, hlt]
    repeat (with_reducible refine And.intro ?_ ?_; · (first | omega | decide))
    with_reducible refine bcase_d (fun hb2 => ?_) (fun hb2 => ?_)
    · simp (maxSteps := 1000000) -implicitDefEqProofs only [push_cast, seval]
      rw [codeOk_no (fun o => by have := o.t30 _ (List.getElem_mem hi'); omega)]
      exact ⟨rfl, (pA.trans p1).keep⟩
    · simp (maxSteps := 1000000) -implicitDefEqProofs only [push_cast, seval]
      rw [wrapSucc (by omega)]
      refine ⟨i + 1, by kernel_rfl, ⟨⟨by omega, fun j hj1 hj2 => ?_⟩, p1⟩, by omega⟩
      by_cases e : j = i
      · subst e; omega
      · exact hj j hj1 (by omega)
  have t30 : ∀ s ∈ c.texts, s.size ≤ 30 := fun s hs => by
    obtain ⟨j, hj1, rfl⟩ := List.getElem_of_mem hs
    exact hj j hj1 (by omega)
  clear hj
  have pre2 := pA.trans p1
  simp (maxSteps := 1000000) -implicitDefEqProofs only [push_cast, seval, e1, rd_of e1, rd1_of e1, l1]
  with_reducible refine bcase_d (fun q1 => ?_) (fun q1 => ?_)
  · simp (maxSteps := 1000000) -implicitDefEqProofs only [push_cast, seval]
    rw [codeOk_no (fun o => by have := o.t60; omega)]
    exact ⟨rfl, pre2.keep⟩
  simp (maxSteps := 1000000) -implicitDefEqProofs only [push_cast, seval, e1, rd_of e1, rd1_of e1, l1]
  with_reducible refine bcase_d (fun q2 => ?_) (fun q2 => ?_)
  · simp (maxSteps := 1000000) -implicitDefEqProofs only [push_cast, seval]
    rw [codeOk_no (fun o => by have := o.l250; omega)]
    exact ⟨rfl, pre2.keep⟩
  simp (maxSteps := 1000000) -implicitDefEqProofs only [push_cast, seval, e1, rd_of e1, rd1_of e1, l1]
  with_reducible refine bcase_d (fun q3 => ?_) (fun q3 => ?_)
  case refine_2 =>
    simp (maxSteps := 1000000) -implicitDefEqProofs only [push_cast, seval, e1, rd_of e1, rd1_of e1, l1]
    rw [codeOk_no (fun o => q3 o.bgn)]
    exact ⟨rfl, pre2.keep⟩
  simp (maxSteps := 1000000) -implicitDefEqProofs only [push_cast, seval, e1, rd_of e1, rd1_of e1, l1]
  with_reducible refine CD.to (l01In_c _ _ _ _) ?_
  cases q4 : inB c.line 0 (c.list.length : Nat) with
  | false =>
    simp (maxSteps := 1000000) -implicitDefEqProofs only [push_cast, seval, e1, rd_of e1, rd1_of e1, l1]
    rw [codeOk_no (fun o => by have := o.line; simp only [inB, Bool.and_eq_false_iff, decide_eq_false_iff_not] at q4; omega)]
    exact ⟨rfl, pre2.keep⟩
  | true =>
  simp (maxSteps := 1000000) -implicitDefEqProofs only [push_cast, seval, e1, rd_of e1, rd1_of e1, l1]
  with_reducible refine CD.to (l01In_c _ _ _ _) ?_
  cases q5 : inB c.fin c.line (c.list.length : Nat) with
  | false =>
    simp (maxSteps := 1000000) -implicitDefEqProofs only [push_cast, seval, e1, rd_of e1, rd1_of e1, l1]
    rw [codeOk_no (fun o => by have := o.fin; simp only [inB, Bool.and_eq_false_iff, decide_eq_false_iff_not] at q5; omega)]
    exact ⟨rfl, pre2.keep⟩
  | true =>
  simp only [inB, Bool.and_eq_true, decide_eq_true_eq] at q4 q5
  have o : OkC c := ⟨t30, by omega, by omega, q3, by omega, by omega⟩
  rw [codeOk_parts o]
  have hP := fun a b h1 h2 (h3 : AH) (p : Pre h h3) => l07Part_c c _ _ a b h3 (r.pre p) (by omega) t30 h1 h2 (by omega)
  have P1 := hP 0 c.line.toNat (Nat.zero_le _) (by omega)
  have P2 := hP c.line.toNat c.fin.toNat (by omega) (by omega)
  have P3 := hP c.fin.toNat c.list.length (by omega) (Nat.le_refl _)
  rw [Int.toNat_of_nonneg (by omega)] at P1
  rw [Int.toNat_of_nonneg (by omega), Int.toNat_of_nonneg (by omega)] at P2
  rw [Int.toNat_of_nonneg (by omega)] at P3
  rw [castLit0] at P1
  simp (maxSteps := 1000000) -implicitDefEqProofs only [push_cast, seval, e1, rd_of e1, rd1_of e1, l1]
  with_reducible refine CD.to (P1 _ pre2) ?_
  cases w1 : partP c.texts c.list 0 c.line.toNat with
  | false =>
    simp (maxSteps := 1000000) -implicitDefEqProofs only [push_cast, seval]
    exact pre2.keep
  | true =>
  simp (maxSteps := 1000000) -implicitDefEqProofs only [push_cast, seval, e1, rd_of e1, rd1_of e1, l1]
  with_reducible refine CD.to (P2 _ pre2) ?_
  cases w2 : partP c.texts c.list c.line.toNat c.fin.toNat with
  | false =>
    simp (maxSteps := 1000000) -implicitDefEqProofs only [push_cast, seval]
    exact pre2.keep
  | true =>
  simp (maxSteps := 1000000) -implicitDefEqProofs only [push_cast, seval, e1, rd_of e1, rd1_of e1, l1]
  with_reducible refine CD.to (P3 _ pre2) ?_
  simp (maxSteps := 1000000) -implicitDefEqProofs only [push_cast, seval]
  exact pre2.keep
end Go.Proofs.YtdlpdfclljnmhaaGreat
namespace Go.Proofs.YtdlpdfclljnmhaaGreat
open Go Go.Sim Go.Proofs
set_option linter.unusedSimpArgs false
set_option linter.unusedVariables false
set_option maxRecDepth 100000
set_option maxHeartbeats 1000000
def txtW (l : List ByteArray) (i : Nat) : Nat := ((l.take i).map fun x => x.size).sum
theorem txtW_zero (l : List ByteArray) : txtW l 0 = 0 := by simp [txtW]
theorem txtW_succ {l : List ByteArray} {i : Nat} (h : i < l.length) : txtW l (i + 1) = txtW l i + l[i].size := by
  simp only [txtW, List.take_add_one, List.getElem?_eq_getElem h, Option.toList_some, List.map_append, List.map_cons, List.map_nil, List.sum_append, List.sum_cons, List.sum_nil]; omega
theorem txtW_mono {l : List ByteArray} : ∀ {i j : Nat}, i ≤ j → j ≤ l.length → txtW l i ≤ txtW l j
  | i, 0, h, _ => by have : i = 0 := by omega
                     subst this; exact Nat.le_refl _
  | i, j + 1, h, hj => by
    by_cases e : i = j + 1
    · subst e; exact Nat.le_refl _
    · have := txtW_mono (l := l) (i := i) (j := j) (by omega) (by omega)
      rw [txtW_succ (by omega)]; omega
def codeW (c : Cod) : Nat := c.texts.length + txtW c.texts c.texts.length + c.list.length
structure SzC (c : Cod) : Prop where
  texts : ∀ x ∈ c.texts, x.size ≤ maxLen
  nt : c.texts.length ≤ maxLen
  nl : c.list.length ≤ maxLen
end Go.Proofs.YtdlpdfclljnmhaaGreat
namespace Go.Proofs.YtdlpdfclljnmhaaGreat
open Go Go.Sim Go.Proofs
set_option linter.unusedSimpArgs false
set_option linter.unusedVariables false
set_option maxRecDepth 100000
set_option maxHeartbeats 1000000
theorem Index_c (l : List ByteArray) (v : Value) (s : ByteArray) (h : AH) (r : RdV h v 1 encTx l) (hl : l.length ≤ 1048576) :
    CC Tryz.prog 70 [v, .string s] h (fun r h' => (∃ n : Int, r = .int .i64 n ∧ (0 ≤ n ↔ l.any (fun t => decide (t = s)) = true)) ∧ Pre h h') := by
  refine CC.withBig (fun big => ?_)
  obtain ⟨A, c, rfl, hR⟩ := r.rde (fun _ => rfl)
  refine CC.ofN Tryz.func70 Tryz.ntmps70 Tryz.results70 rfl (by decide) (by kernel_rfl) ?_
  simp (maxSteps := 1000000) -implicitDefEqProofs only [push_cast, seval]
  refine WC.loopA (by kernel_rfl) [8] [4, 5, 9, 10, 11, 12, 13, 14, 15, 16, 17, 18] (fun i : Nat => [.int .i64 i]) (fun i h' => (i ≤ l.length ∧ ∀ j (hj : j < l.length), j < i → l[j] ≠ s) ∧ Pre h h') (fun i => l.length - i) 0 (by kernel_rfl) ⟨⟨Nat.zero_le _, fun j hj h0 => by omega⟩, Pre.refl _⟩ ?_
  intro i g h1 hJ
  have hi := hJ.1.1
  have hj := hJ.1.2
  have p1 := hJ.2
  clear hJ
  simp (maxSteps := 1000000) -implicitDefEqProofs only [push_cast, seval]
  with_reducible refine bcase_d (fun hb => ?_) (fun hb => ?_)
  · have hi' : i < l.length := by omega
    have hno : l[i] ≠ s → ∀ j (hj : j < l.length), j < i + 1 → l[j] ≠ s := fun e j hj1 hj2 => by
      by_cases e2 : j = i
      · subst e2; exact e
      · exact hj j hj1 (by omega)
    have hyes : l[i] = s → l.any (fun t => decide (t = s)) = true := fun e => List.any_eq_true.2 ⟨_, List.getElem_mem hi', by simp [e]⟩
    with_reducible refine hR.use big p1 hi' (fun id off eA hlt hr => ?_)
    subst eA
    generalize l[i] = T at *
    simp only [encTx, Nat.mul_one] at hr
    have r0 := rd_1 hr
    simp (maxSteps := 1000000) -implicitDefEqProofs only [push_cast, seval, hr, r0, hlt, Nat.mul_one]
    repeat (with_reducible refine And.intro ?_ ?_; · (first | omega | decide))
    with_reducible refine bcase_d (fun hT => ?_) (fun hT => ?_)
    · simp (maxSteps := 1000000) -implicitDefEqProofs only [push_cast, seval]
      exact ⟨⟨_, rfl, by simp [hyes hT.symm]⟩, p1⟩
    · simp (maxSteps := 1000000) -implicitDefEqProofs only [push_cast, seval]
      rw [wrapSucc (by omega)]
      exact ⟨i + 1, by kernel_rfl, ⟨⟨by omega, hno (fun e => hT e.symm)⟩, p1⟩, by omega⟩
  have ei : i = l.length := by omega
  subst ei
  simp (maxSteps := 1000000) -implicitDefEqProofs only [push_cast, seval]
  refine ⟨⟨_, rfl, ?_⟩, p1⟩
  have : l.any (fun t => decide (t = s)) = false := List.any_eq_false.2 (fun x hx => by
    obtain ⟨j, hj1, rfl⟩ := List.getElem_of_mem hx
    simpa using hj j hj1 hj1)
  rw [this]
  simp
theorem Contains_c (l : List ByteArray) (v : Value) (s : ByteArray) (h : AH) (r : RdV h v 1 encTx l) (hl : l.length ≤ 1048576) :
    CD Tryz.prog 42 [v, .string s] h (.bool (l.any (fun t => decide (t = s)))) h := by
  refine CD.quiet ?_ (low_bool _ _)
  refine CC.ofN Tryz.func42 Tryz.ntmps42 Tryz.results42 rfl (by decide) (by kernel_rfl) ?_
  simp (maxSteps := 1000000) -implicitDefEqProofs only [push_cast, seval]
  with_reducible refine CC.mono (Index_c l v s h r hl) (fun v h1 hv => ?_)
  with_reducible refine Exists.elim hv.1 (fun n hw => ?_)
  have e1 := hw.1
  have e2 := hw.2
  have p1 := hv.2
  clear hv hw
  subst e1
  simp (maxSteps := 1000000) -implicitDefEqProofs only [push_cast, seval]
  refine ⟨?_, p1.keep⟩
  congr 1
  rw [Bool.eq_iff_iff, decide_eq_true_eq]
  exact e2
theorem RdV.litS (l : List ByteArray) (c : Nat) (h : AH) : RdV (h.alloc (.cells (l.map encTx).flatten .solo h.n)) (.slice (some ⟨h.n, 0, none⟩) l.length c) 1 encTx l := by
  have o : Own (h.alloc (.cells (l.map encTx).flatten .solo h.n)) h.n 0 l.length 1 (l.map encTx).flatten := Own.new _ _ _ (flat_len (k := 1) l (fun _ => rfl))
  exact .inr ⟨_, _, _, rfl, o.rdAll, o.lt⟩
theorem _root_.Go.Sim.RdV.at0 {α : Type} {h : AH} {id off n c k : Nat} {enc : α → List Value} {l : List α} (r : RdV h (.slice (some ⟨id, off, none⟩) n c) k enc l) (hl : ∀ x, (enc x).length = k) {i : Nat} (hi : i < l.length) : id < h.n ∧ rd h id (off + i * k) k = some (enc l[i]) := by
  rcases r with ⟨c, e, _⟩ | ⟨id', off', c', e, q, hlt⟩
  · injection e with e1; cases e1
  · injection e with e1
    injection e1 with e1
    injection e1 with e1 e2
    subst e1 e2
    exact ⟨hlt, chunk_of (n := 0) (fun x _ => hl x) q hi⟩
theorem isWordKept_c (s : ByteArray) (h : AH) : CD Tryz.prog 128 [.string s] h (.bool (kept.any (fun t => decide (t = s)))) h := by
  refine CD.quiet ?_ (low_bool _ _)
  have hk : RdV (h.alloc (.cells [.string ⟨#[66, 69, 71, 73, 78]⟩, .string ⟨#[69, 78, 68]⟩, .string ⟨#[112, 114, 105, 110, 116]⟩, .string ⟨#[110, 101, 120, 116]⟩, .string ⟨#[100, 117, 109, 112]⟩, .string ⟨#[105, 102]⟩, .string ⟨#[101, 108, 115, 101]⟩, .string ⟨#[78, 70]⟩, .string ⟨#[78, 82]⟩, .string ⟨#[108, 101, 110, 103, 116, 104]⟩] .solo h.n)) (.slice (some ⟨h.n, 0, none⟩) 10 1) 1 encTx kept := RdV.litS kept 1 h
  refine CC.ofN Tryz.func128 Tryz.ntmps128 Tryz.results128 rfl (by decide) (by kernel_rfl) ?_
  simp (maxSteps := 1000000) -implicitDefEqProofs only [push_cast, seval]
  with_reducible refine CD.to (Contains_c kept _ s _ hk (by decide)) ?_
  simp (maxSteps := 1000000) -implicitDefEqProofs only [push_cast, seval]
  exact ((Pre.refl h).alloc _).keep
theorem isName_c (s : ByteArray) (hs : s.size ≤ maxLen) (h : AH) : CD Tryz.prog 88 [.string s] h (.bool (nameOk s)) h := by
  refine CD.quiet ?_ (low_bool _ _)
  refine CC.ofN Tryz.func88 Tryz.ntmps88 Tryz.results88 rfl (by decide) (by kernel_rfl) ?_
  simp (maxSteps := 1000000) -implicitDefEqProofs only [push_cast, seval]
  with_reducible refine CD.to (isLetters_c s hs _) ?_
  unfold nameOk
  cases hl : letters s
  · simp (maxSteps := 1000000) -implicitDefEqProofs only [push_cast, seval]
    exact Keep.refl _ _
  · simp (maxSteps := 1000000) -implicitDefEqProofs only [push_cast, seval]
    with_reducible refine CD.to (isWordKept_c s _) ?_
    simp (maxSteps := 1000000) -implicitDefEqProofs only [push_cast, seval]
    exact Keep.refl _ _
def kept2 : List ByteArray := [⟨#[66, 69, 71, 73, 78]⟩, ⟨#[69, 78, 68]⟩, ⟨#[112, 114, 105, 110, 116]⟩, ⟨#[110, 101, 120, 116]⟩, ⟨#[100, 117, 109, 112]⟩, ⟨#[105, 102]⟩, ⟨#[101, 108, 115, 101]⟩, ⟨#[108, 101, 110, 103, 116, 104]⟩, ⟨#[78, 70]⟩, ⟨#[78, 82]⟩]
theorem kept2_any (p : ByteArray → Bool) : kept2.any p = kept.any p := by
  simp only [kept2, kept, List.any_cons, List.any_nil, Bool.or_false]
  cases p ⟨#[78, 70]⟩ <;> cases p ⟨#[78, 82]⟩ <;> cases p ⟨#[108, 101, 110, 103, 116, 104]⟩ <;> simp
theorem l06Name_c (s : ByteArray) (hs : s.size ≤ maxLen) (h : AH) : CD Tryz.prog 124 [.string s] h (.bool (nameOk s)) h := by
  refine CD.withBig (fun big => ?_)
  refine CD.quiet ?_ (low_bool _ _)
  have hk : RdV (h.alloc (.cells [.string ⟨#[66, 69, 71, 73, 78]⟩, .string ⟨#[69, 78, 68]⟩, .string ⟨#[112, 114, 105, 110, 116]⟩, .string ⟨#[110, 101, 120, 116]⟩, .string ⟨#[100, 117, 109, 112]⟩, .string ⟨#[105, 102]⟩, .string ⟨#[101, 108, 115, 101]⟩, .string ⟨#[108, 101, 110, 103, 116, 104]⟩, .string ⟨#[78, 70]⟩, .string ⟨#[78, 82]⟩] .solo h.n)) (.slice (some ⟨h.n, 0, none⟩) 10 1) 1 encTx kept2 := RdV.litS kept2 1 h
  have pA : Pre h (h.alloc (.cells [.string ⟨#[66, 69, 71, 73, 78]⟩, .string ⟨#[69, 78, 68]⟩, .string ⟨#[112, 114, 105, 110, 116]⟩, .string ⟨#[110, 101, 120, 116]⟩, .string ⟨#[100, 117, 109, 112]⟩, .string ⟨#[105, 102]⟩, .string ⟨#[101, 108, 115, 101]⟩, .string ⟨#[108, 101, 110, 103, 116, 104]⟩, .string ⟨#[78, 70]⟩, .string ⟨#[78, 82]⟩] .solo h.n)) := (Pre.refl h).alloc _
  have c0 : (h.alloc (.cells [.string ⟨#[66, 69, 71, 73, 78]⟩, .string ⟨#[69, 78, 68]⟩, .string ⟨#[112, 114, 105, 110, 116]⟩, .string ⟨#[110, 101, 120, 116]⟩, .string ⟨#[100, 117, 109, 112]⟩, .string ⟨#[105, 102]⟩, .string ⟨#[101, 108, 115, 101]⟩, .string ⟨#[108, 101, 110, 103, 116, 104]⟩, .string ⟨#[78, 70]⟩, .string ⟨#[78, 82]⟩] .solo h.n)).ob h.n = _ := alloc_same _
  have n0 : (h.alloc (.cells [.string ⟨#[66, 69, 71, 73, 78]⟩, .string ⟨#[69, 78, 68]⟩, .string ⟨#[112, 114, 105, 110, 116]⟩, .string ⟨#[110, 101, 120, 116]⟩, .string ⟨#[100, 117, 109, 112]⟩, .string ⟨#[105, 102]⟩, .string ⟨#[101, 108, 115, 101]⟩, .string ⟨#[108, 101, 110, 103, 116, 104]⟩, .string ⟨#[78, 70]⟩, .string ⟨#[78, 82]⟩] .solo h.n)).n = h.n + 1 := rfl
  rw [maxLen_eq] at hs
  refine CC.ofN Tryz.func124 Tryz.ntmps124 Tryz.results124 rfl (by decide) (by kernel_rfl) ?_
  simp (maxSteps := 1000000) -implicitDefEqProofs only [push_cast, seval]
  generalize (h.alloc (.cells [.string ⟨#[66, 69, 71, 73, 78]⟩, .string ⟨#[69, 78, 68]⟩, .string ⟨#[112, 114, 105, 110, 116]⟩, .string ⟨#[110, 101, 120, 116]⟩, .string ⟨#[100, 117, 109, 112]⟩, .string ⟨#[105, 102]⟩, .string ⟨#[101, 108, 115, 101]⟩, .string ⟨#[108, 101, 110, 103, 116, 104]⟩, .string ⟨#[78, 70]⟩, .string ⟨#[78, 82]⟩] .solo h.n)) = h0 at *
  refine WC.loopA (by kernel_rfl) [4] [2, 7, 8, 9, 10, 11, 12, 13, 14, 15, 16, 17, 18] (fun i : Nat => [.int .i64 i]) (fun i h' => (i ≤ 10 ∧ ∀ j (hj : j < kept2.length), j < i → kept2[j] ≠ s) ∧ Pre h0 h') (fun i => 10 - i) 0 (by kernel_rfl) ⟨⟨Nat.zero_le _, fun j hj h0 => by omega⟩, Pre.refl _⟩ ?_
  intro i g h1 hJ
  have hi := hJ.1.1
  have hj := hJ.1.2
  have p1 := hJ.2
  clear hJ
  simp (maxSteps := 1000000) -implicitDefEqProofs only [push_cast, seval]
  with_reducible refine bcase_d (fun hb => ?_) (fun hb => ?_)
  · have hi' : i < kept2.length := by show i < 10; omega
    have hno : kept2[i] ≠ s → ∀ j (hj : j < kept2.length), j < i + 1 → kept2[j] ≠ s := fun e j hj1 hj2 => by
      by_cases e2 : j = i
      · subst e2; exact e
      · exact hj j hj1 (by omega)
    have hyes : kept2[i] = s → nameOk s = false := fun e => by
      have : kept.any (fun t => decide (t = s)) = true := by
        rw [← kept2_any]
        exact List.any_eq_true.2 ⟨_, List.getElem_mem hi', by simp [e]⟩
      rw [nameOk, this]; simp
    have hR := (hk.pre p1).at0 (fun _ => rfl) hi'
    have hlt := hR.1
    have hr := hR.2
    clear hR
    generalize kept2[i] = T at *
    simp only [encTx, Nat.mul_one, Nat.zero_add] at hr
    have r0 := rd_1 hr
    simp (maxSteps := 1000000) -implicitDefEqProofs only [push_cast, seval, hr, r0, hlt, Nat.mul_one]
    repeat (with_reducible refine And.intro ?_ ?_; · (first | omega | decide))
    with_reducible refine bcase_d (fun hT => ?_) (fun hT => ?_)
    · simp (maxSteps := 1000000) -implicitDefEqProofs only [push_cast, seval]
      rw [hyes hT]
      exact ⟨rfl, (pA.trans p1).keep⟩
    · simp (maxSteps := 1000000) -implicitDefEqProofs only [push_cast, seval]
      rw [wrapSucc (by omega)]
      exact ⟨i + 1, by kernel_rfl, ⟨⟨by omega, hno hT⟩, p1⟩, by omega⟩
  have ei : i = 10 := by omega
  subst ei
  have hk0 : kept.any (fun t => decide (t = s)) = false := by
    rw [← kept2_any]
    exact List.any_eq_false.2 (fun x hx => by
      obtain ⟨j, hj1, rfl⟩ := List.getElem_of_mem hx
      simpa using hj j hj1 hj1)
  clear hj hk
  simp (maxSteps := 1000000) -implicitDefEqProofs only [push_cast, seval]
  refine WC.loopA (by kernel_rfl) [5] [2, 19, 20, 21, 22, 23, 24, 25, 26, 27, 28, 29] (fun i : Nat => [.int .i64 i]) (fun i h' => (i ≤ s.size ∧ ∀ j, j < i → letter (byteAt s j).toNat = true) ∧ Pre h1 h') (fun i => s.size - i) 0 (by kernel_rfl) ⟨⟨Nat.zero_le _, fun j hj => by omega⟩, Pre.refl _⟩ ?_
  intro i g2 h2 hJ
  have hi2 := hJ.1.1
  have hj := hJ.1.2
  have p2 := hJ.2
  clear hJ
  simp (maxSteps := 1000000) -implicitDefEqProofs only [push_cast, seval]
  repeat' (first | with_reducible (first | exact Keep.refl _ _ | assumption | exact byte_lt _ _ | apply Keep.alloc | (refine Keep.set ?_ ?_; rotate_left; · omega) | apply Pre.alloc | apply Pre.set | exact Pre.refl _ | exact le_alloc _ | (refine Pre.keep ?_; assumption) | (refine Pre.n ?_; assumption)) | ((with_reducible (first | refine CD.to (l05Letter_c _ _) ?_ | refine CQ.pure (fun _ => l05Letter_c _ _) ?_ | refine CD.to (l01In_c _ _ _ _) ?_ | refine CQ.pure (fun _ => l01In_c _ _ _ _) ?_ | refine bcase_d (fun hb => ?_) (fun hb => ?_) | refine bcase_mk (fun hb => ?_) (fun hb => ?_))) <;> try simp (maxSteps := 1000000) -implicitDefEqProofs only [push_cast, seval]) | with_reducible refine And.intro ?_ ?_ | omega | (simp only [alloc_n, set_n, kill_n]; omega) | (exfalso; omega))
  all_goals first
    | exact ((pA.trans p1).trans p2).keep
    | (rw [wrapSucc (by omega)]
       exact ⟨i + 1, by kernel_rfl, ⟨⟨by omega, fun j hj' => (Nat.lt_succ_iff_lt_or_eq.1 hj').elim (hj j) (fun e => by subst e; exact hb)⟩, p2⟩, by omega⟩)
    | (rw [nameOk, show letters s = false by simp only [letters, allAt_false (s := s) (i := i) (by omega) hb]; rfl]; rfl)
    | (have : allAt s letter = true := allAt_iff.2 (fun j hj' => hj j (by omega))
       rw [nameOk, hk0]
       simp [letters, this])
end Go.Proofs.YtdlpdfclljnmhaaGreat
namespace Go.Proofs.YtdlpdfclljnmhaaGreat
open Go Go.Sim Go.Proofs
set_option linter.unusedSimpArgs false
set_option linter.unusedVariables false
set_option maxRecDepth 100000
set_option maxHeartbeats 1000000
theorem isExpr_c (op : Int) (h : AH) : CD Tryz.prog 92 [.int .i64 op] h (.bool (isEx op)) h := by
  refine CD.quiet ?_ (low_bool _ _)
  refine CC.ofN Tryz.func92 Tryz.ntmps92 Tryz.results92 rfl (by decide) (by kernel_rfl) ?_
  simp (maxSteps := 1000000) -implicitDefEqProofs only [push_cast, seval]
  repeat' (first | with_reducible (first | exact Keep.refl _ _ | assumption | exact byte_lt _ _ | apply Keep.alloc | (refine Keep.set ?_ ?_; rotate_left; · omega) | apply Pre.alloc | apply Pre.set | exact Pre.refl _ | exact le_alloc _ | (refine Pre.keep ?_; assumption) | (refine Pre.n ?_; assumption)) | ((with_reducible (first | refine CD.to (within_c _ _ _ _) ?_ | refine CQ.pure (fun _ => within_c _ _ _ _) ?_ | refine bcase_d (fun hb => ?_) (fun hb => ?_) | refine bcase_mk (fun hb => ?_) (fun hb => ?_))) <;> try simp (maxSteps := 1000000) -implicitDefEqProofs only [push_cast, seval]) | with_reducible refine And.intro ?_ ?_ | omega | (simp only [alloc_n, set_n, kill_n]; omega) | (exfalso; omega))
  rfl
theorem l06Ex_c (op : Int) (h : AH) : CD Tryz.prog 58 [.int .i64 op] h (.bool (isEx op)) h := by
  refine CD.quiet ?_ (low_bool _ _)
  refine CC.ofN Tryz.func58 Tryz.ntmps58 Tryz.results58 rfl (by decide) (by kernel_rfl) ?_
  simp (maxSteps := 1000000) -implicitDefEqProofs only [push_cast, seval]
  repeat' (first | with_reducible (first | exact Keep.refl _ _ | assumption | exact byte_lt _ _ | apply Keep.alloc | (refine Keep.set ?_ ?_; rotate_left; · omega) | apply Pre.alloc | apply Pre.set | exact Pre.refl _ | exact le_alloc _ | (refine Pre.keep ?_; assumption) | (refine Pre.n ?_; assumption)) | ((with_reducible (first | refine CD.to (l01In_c _ _ _ _) ?_ | refine CQ.pure (fun _ => l01In_c _ _ _ _) ?_ | refine bcase_d (fun hb => ?_) (fun hb => ?_) | refine bcase_mk (fun hb => ?_) (fun hb => ?_))) <;> try simp (maxSteps := 1000000) -implicitDefEqProofs only [push_cast, seval]) | with_reducible refine And.intro ?_ ?_ | omega | (simp only [alloc_n, set_n, kill_n]; omega) | (exfalso; omega))
  rfl
theorem op_split (op : Int) : (op = 1 ∨ op = 2 ∨ op = 3 ∨ op = 4 ∨ op = 5 ∨ op = 8 ∨ op = 9 ∨ op = 10 ∨ op = 11 ∨ op = 12 ∨ op = 13 ∨ op = 14 ∨ op = 15 ∨ op = 16 ∨ op = 17 ∨ op = 18 ∨ op = 19 ∨ op = 20 ∨ op = 21 ∨ op = 22 ∨ op = 24 ∨ op = 25) ∨ (op ≠ 1 ∧ op ≠ 2 ∧ op ≠ 3 ∧ op ≠ 4 ∧ op ≠ 5 ∧ op ≠ 8 ∧ op ≠ 9 ∧ op ≠ 10 ∧ op ≠ 11 ∧ op ≠ 12 ∧ op ≠ 13 ∧ op ≠ 14 ∧ op ≠ 15 ∧ op ≠ 16 ∧ op ≠ 17 ∧ op ≠ 18 ∧ op ≠ 19 ∧ op ≠ 20 ∧ op ≠ 21 ∧ op ≠ 22 ∧ op ≠ 24 ∧ op ≠ 25) := by omega
theorem kidRange_c (op : Int) (h : AH) : CD Tryz.prog 91 [.int .i64 op] h (.tuple #[.int .i64 (rangeP op).1, .int .i64 (rangeP op).2]) h := by
  refine CD.quiet ?_ (low_tuple (by simp [low_int]))
  rcases op_split op with hc | ⟨n1, n2, n3, n4, n5, n8, n9, n10, n11, n12, n13, n14, n15, n16, n17, n18, n19, n20, n21, n22, n24, n25⟩
  · rcases hc with rfl | rfl | rfl | rfl | rfl | rfl | rfl | rfl | rfl | rfl | rfl | rfl | rfl | rfl | rfl | rfl | rfl | rfl | rfl | rfl | rfl | rfl
    all_goals
      refine CC.ofN Tryz.func91 Tryz.ntmps91 Tryz.results91 rfl (by decide) (by kernel_rfl) ?_
      simp (maxSteps := 1000000) -implicitDefEqProofs only [push_cast, seval]
      exact ⟨rfl, Keep.refl _ _⟩
  · have e : rangeP op = (0, 0) := by simp [rangeP, manyP, *]
    rw [e]
    refine CC.ofN Tryz.func91 Tryz.ntmps91 Tryz.results91 rfl (by decide) (by kernel_rfl) ?_
    simp (maxSteps := 1000000) -implicitDefEqProofs only [push_cast, seval, decide_eq_false n4, decide_eq_false n5, decide_eq_false n8, decide_eq_false n9, decide_eq_false n10, decide_eq_false n11, decide_eq_false n12, decide_eq_false n13, decide_eq_false n14, decide_eq_false n15, decide_eq_false n16, decide_eq_false n17, decide_eq_false n18, decide_eq_false n19, decide_eq_false n20, decide_eq_false n21, decide_eq_false n22, decide_eq_false n24]
    exact Keep.refl _ _
theorem l06Many_c (op : Int) (h : AH) : CD Tryz.prog 83 [.int .i64 op] h (.tuple #[.int .i64 (manyP op).1, .int .i64 (manyP op).2]) h := by
  refine CD.quiet ?_ (low_tuple (by simp [low_int]))
  rcases op_split op with hc | ⟨n1, n2, n3, n4, n5, n8, n9, n10, n11, n12, n13, n14, n15, n16, n17, n18, n19, n20, n21, n22, n24, n25⟩
  · rcases hc with rfl | rfl | rfl | rfl | rfl | rfl | rfl | rfl | rfl | rfl | rfl | rfl | rfl | rfl | rfl | rfl | rfl | rfl | rfl | rfl | rfl | rfl
    all_goals
      refine CC.ofN Tryz.func83 Tryz.ntmps83 Tryz.results83 rfl (by decide) (by kernel_rfl) ?_
      simp (maxSteps := 1000000) -implicitDefEqProofs only [push_cast, seval]
      exact ⟨rfl, Keep.refl _ _⟩
  · have e : manyP op = (0, 0) := by simp [rangeP, manyP, *]
    rw [e]
    refine CC.ofN Tryz.func83 Tryz.ntmps83 Tryz.results83 rfl (by decide) (by kernel_rfl) ?_
    simp (maxSteps := 1000000) -implicitDefEqProofs only [push_cast, seval, decide_eq_false n4, decide_eq_false n5, decide_eq_false n8, decide_eq_false n9, decide_eq_false n10, decide_eq_false n11, decide_eq_false n12, decide_eq_false n13, decide_eq_false n14, decide_eq_false n15, decide_eq_false n16, decide_eq_false n17, decide_eq_false n18, decide_eq_false n19, decide_eq_false n20, decide_eq_false n21, decide_eq_false n22, decide_eq_false n24]
    exact Keep.refl _ _
end Go.Proofs.YtdlpdfclljnmhaaGreat
