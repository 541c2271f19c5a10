/- Parts of the proof of the row: the ground, contracts of the functions that it reaches (Lay3, Lay4, SimV, SimW, SimX, SimR2, P11, C2, C1, P24, SimT2, SimCut, C3, C10, SimRF, SimRF2). Conditions: those that each theorem names. -/
import Derived.Shelf.Small.Utf8
import Derived.WalkMore
import Derived.Shelf.RegionOpenPlain
import Derived.Sort.Row
import Derived.Sort.Grow
import Derived.RangeFuncIn
import Derived.RangeFuncLeaves
import Derived.RangeFuncRecord
import Derived.RangeFuncSeq
import Derived.RangeFuncCalls
import Derived.OrdersIn
import Derived.TacticsIn
import Derived.Test.YtcggnolnakgkeaaB3
/- strings.IndexRune at a rune above 127 in two ASCII bytes. Conditions: those that each theorem names. -/
namespace Go.Proofs
open Go Go.Shelf Go.RowKit Go.Lib
set_option linter.unusedVariables false
set_option linter.unusedSimpArgs false
variable {P : Program} {ρ : Ren}
def encB (c : Nat) : ByteArray :=
  if c < 0x80 then ⟨#[UInt8.ofNat c]⟩
  else if c < 0x800 then ⟨#[UInt8.ofNat (0xC0 + c / 64), UInt8.ofNat (0x80 + c % 64)]⟩
  else if c < 0x10000 then ⟨#[UInt8.ofNat (0xE0 + c / 4096), UInt8.ofNat (0x80 + c / 64 % 64), UInt8.ofNat (0x80 + c % 64)]⟩
  else ⟨#[UInt8.ofNat (0xF0 + c / 262144), UInt8.ofNat (0x80 + c / 4096 % 64), UInt8.ofNat (0x80 + c / 64 % 64), UInt8.ofNat (0x80 + c % 64)]⟩
theorem encode_encB (r : Int) : Utf8.encode r = encB (if Utf8.valid r then r.toNat else Utf8.runeError) := rfl
theorem ofNat_hi {n : Nat} (h : 128 ≤ n) (h2 : n < 256) : 128 ≤ (UInt8.ofNat n).toNat := by
  rw [UInt8.toNat_ofNat']; omega
theorem encB_hi (c : Nat) (h : 128 ≤ c) (h2 : c ≤ 1114111) : ((encB c).size = 2 ∧ ∃ a b, encB c = ⟨#[a, b]⟩ ∧ 128 ≤ b.toNat) ∨ (encB c).size = 3 ∨ (encB c).size = 4 := by
  unfold encB
  rw [if_neg (by omega)]
  split
  · exact .inl ⟨rfl, _, _, rfl, ofNat_hi (by omega) (by have : c % 64 < 64 := Nat.mod_lt _ (by omega); omega)⟩
  split
  · exact .inr (.inl rfl)
  · exact .inr (.inr rfl)
theorem enc_hi (r : Int) (h : 128 ≤ r) : ((Utf8.encode r).size = 2 ∧ ∃ a b, Utf8.encode r = ⟨#[a, b]⟩ ∧ 128 ≤ b.toNat) ∨ (Utf8.encode r).size = 3 ∨ (Utf8.encode r).size = 4 := by
  rw [encode_encB]
  have e : Utf8.runeError = 65533 := rfl
  split
  · rename_i hv
    simp only [Utf8.valid, Bool.or_eq_true, Bool.and_eq_true, decide_eq_true_eq] at hv
    exact encB_hi _ (by omega) (by omega)
  · exact encB_hi _ (by omega) (by omega)
theorem below_drew (w : World) : Below w.heap.size w w.drew.drew := ⟨rfl, rfl, rfl, Nat.le_refl _, fun _ _ => rfl⟩
set_option maxHeartbeats 8000000 in
set_option maxRecDepth 1000000 in
theorem Any.IndexRune_hi (L : Lays.n152 P ρ) (s : ByteArray) (r : Int) (w : World) (h0 : 128 ≤ r) (h1 : r < 2147483648) (hs : s.size = 2) (ha : ∀ j (hj : j < s.size), (s[j]'hj).toNat < 128) :
    Calls P (ρ.f 152) #[.string s, .int .i32 r] w fun e w' => e = .returned (.int .i64 (-1)) ∧ Below w.heap.size w w' := by
  have mixed := L.mixed
  have t3 := L.t3; have a3 := L.a3; have z3 := L.z3; have v3 := L.v3
  have t4 := L.t4; have a4 := L.a4; have z4 := L.z4; have v4 := L.v4
  have t5 := L.t5; have a5 := L.a5; have z5 := L.z5; have v5 := L.v5
  have t9 := L.t9; have a9 := L.a9; have z9 := L.z9; have v9 := L.v9
  have t21 := L.t21; have a21 := L.a21; have z21 := L.z21; have v21 := L.v21
  have t46 := L.t46; have a46 := L.a46; have z46 := L.z46; have v46 := L.v46
  have e119 : ∀ args w, (callFunc (ρ.f 119) args).run P w = .ok (.enter (ρ.f 119) args) w := enters_of L.f119 (by kernel_rfl) rfl
  have e137 : ∀ args w, (callFunc (ρ.f 137) args).run P w = .ok (.enter (ρ.f 137) args) w := enters_of L.f137 (by kernel_rfl) rfl
  have hr0 : (0 : Int) ≤ r := by omega
  have hr1 : ¬ (r < 128) := by omega
  by_cases hE : r = 65533
  · subst hE
    have HA : Aside (∀ j (hj : j < s.size), (s[j]'hj).toNat < 128) := ha
    clear ha hs
    go_enter L.f152, Body.n152_ntmps ρ
    go_wp2
    go_loopg [5, 6] s.size (fun g _ _ wx => ∃ i : Nat, i + g = s.size ∧ wx = w.iter s i)
    case atStart => exact ⟨0, by omega, rfl⟩
    case round =>
      obtain ⟨i, hig, rfl⟩ := hrel
      cases gk with
      | zero =>
        obtain rfl : i = s.size := by omega
        have hnx := run_next_end (P := P) w s s.size
        go_wp2
        go_ret
        exact ⟨rfl, (Below.refl _ _).alloc (Nat.le_refl _) _⟩
      | succ g =>
        have hi : i < s.size := by omega
        have hx := HA.out i hi
        have hnx := fun ty => run_next_ascii (P := P) w s i ty hi hx
        obtain ⟨x, hx2⟩ : ∃ x : UInt8, s[i]'hi = x := ⟨_, rfl⟩
        rw [hx2] at hnx hx
        have hne : ((x.toNat : Int) == 65533) = false := by
          rw [beq_eq_false_iff_ne]; omega
        go_wp2
        go_roundg g
        case measure => omega
        case rel => exact ⟨i + 1, by omega, rfl⟩
  have hE' : (r == 65533) = false := by simpa using hE
  have HA : Aside (∀ j (hj : j < s.size), (s[j]'hj).toNat < 128) := ha
  have HS : Aside (s.size = 2) := hs
  clear ha hs
  rcases enc_hi r h0 with ⟨e2, a, b, eab, hb⟩ | en | en
  · rw [eab] at e2
    go_enter L.f152, Body.n152_ntmps ρ
    go_wp2_with (go_at_fn (ρ.f 119); refine (Any.utf8_ValidRune { L with } _ _).mono ?_; rintro e w' ⟨rfl, hw⟩; rw [hw])
    · go_ret
      exact ⟨rfl, hw ▸ Below.refl _ _⟩
    subst hw
    go_step3
    go_wp2
    have hs1 : 1 < s.size := by rw [HS.out]; decide
    obtain ⟨x, hx⟩ : ∃ x : UInt8, s[1]'hs1 = x := ⟨_, rfl⟩
    have hx1 : x.toNat < 128 := by rw [← hx]; exact HA.out 1 hs1
    have hne : ((x.toNat : Int) != (b.toNat : Int)) = true := by
      rw [bne_iff_ne]; omega
    have hz1 : (1 : Int) < (s.size : Int) := by omega
    have hz2 : 0 ≤ IntKind.i64.wrap 2 ∧ IntKind.i64.wrap 2 ≤ (s.size : Int) := by rw [HS.out]; decide
    have hix : ∀ c, Lib.indexByte (List.take (s.size - 2) (List.drop 2 s.data.toList)) c = -1 := fun c => by rw [HS.out]; rfl
    have hz3 : (IntKind.i64.wrap 2).toNat = 2 := by decide
    go_loopg [9, 10, 11, 12] 1 (fun g s9 s10 s11 s12 wx => s9 = .int .i64 1 ∧ wx = w')
    case atStart => exact ⟨rfl, rfl⟩
    case round =>
      obtain ⟨rfl, rfl⟩ := hrel
      go_wp2
      go_step3
      go_wp2_with (go_at_fn (ρ.f 137); refine (Any.strings_IndexByte { L with } _ _ _).mono ?_; rintro e w' ⟨rfl, hw⟩; rw [hw])
      go_region_o
      rw [show (⟨#[a, b]⟩ : ByteArray)[1] = b from rfl, hne]
      go_wp2_with fail
      go_region_with_o (go_at_fn (ρ.f 137); refine (Any.strings_IndexByte { L with } _ _ _).mono ?_; rintro e w' ⟨rfl, hw⟩; rw [hw])
      go_wp2
      simp only [Exit.noGoto, Exit.inBlock, Exit.then]
      go_ret
      exact ⟨rfl, below_drew _⟩
  all_goals
    obtain ⟨m, hm, hm2⟩ : ∃ m : Int, (((Utf8.encode r).size : Int) - 1) = m ∧ (2 : Int) ≤ m := ⟨_, rfl, by rw [en]; decide⟩
    have hw1 : IntKind.i64.wrap (((Utf8.encode r).size : Int) - 1) = m := by rw [← hm, en]; decide
    have hlt : ¬ (m < (s.size : Int)) := by rw [HS.out]; omega
    clear hm en
    go_enter L.f152, Body.n152_ntmps ρ
    go_wp2_with (go_at_fn (ρ.f 119); refine (Any.utf8_ValidRune { L with } _ _).mono ?_; rintro e w' ⟨rfl, hw⟩; rw [hw])
    · go_ret
      exact ⟨rfl, hw ▸ Below.refl _ _⟩
    subst hw
    go_step3
    go_wp2
    go_loopg [9, 10, 11, 12] 1 (fun g s9 s10 s11 s12 wx => s9 = .int .i64 m ∧ wx = w')
    case atStart => exact ⟨rfl, rfl⟩
    case round =>
      obtain ⟨rfl, rfl⟩ := hrel
      go_wp2
      simp only [Exit.noGoto, Exit.inBlock, Exit.then]
      go_ret
      exact ⟨rfl, Below.refl _ _⟩
end Go.Proofs
/- strings.IndexAny and ContainsAny at whatever text and two ASCII bytes. Conditions: those that each theorem names. -/
namespace Go.Proofs
open Go Go.Shelf Go.RowKit Go.Lib
set_option linter.unusedVariables false
set_option linter.unusedSimpArgs false
variable {P : Program} {ρ : Ren}
theorem NoAny.hi {s chars : List UInt8} {i k : Nat} (h : Lib.NoAny s chars i) (hs : ∀ j, j < k → ∀ b, s[i + j]? = some b → 128 ≤ b.toNat) (hc : ∀ b ∈ chars, b.toNat < 128) : Lib.NoAny s chars (i + k) := fun j b hj hb => by
  by_cases hlt : j < i
  · exact h j b hlt hb
  · have h2 := hs (j - i) (by omega) b (by rw [show i + (j - i) = j by omega]; exact hb)
    cases hcc : chars.contains b with
    | false => rfl
    | true => have := hc b (by simpa using hcc); omega
theorem set_iter {n : Nat} {w wx : World} {o : Obj} (hb : Below n w wx) (hn : n < wx.heap.size) : Below n w { wx with heap := wx.heap.setIfInBounds n o } ∧ ({ wx with heap := wx.heap.setIfInBounds n o } : World).heap[n]? = some o ∧ n < ({ wx with heap := wx.heap.setIfInBounds n o } : World).heap.size := by
  refine ⟨⟨hb.os, hb.tape, hb.output, by simpa using hb.size, fun k hk => ?_⟩, by simp [hn], by simpa using hn⟩
  show (wx.heap.setIfInBounds n o)[k]? = _
  rw [Array.getElem?_setIfInBounds_ne (by omega)]
  exact hb.block k hk
set_option maxHeartbeats 8000000 in
set_option maxRecDepth 1000000 in
theorem Any.IndexAny_short2 (L : Lays.n153 P ρ) (s chars : ByteArray) (w : World) (h2 : chars.size = 2) (h8 : s.size ≤ 8) (hca : ∀ j (hj : j < chars.size), (chars[j]'hj).toNat < 128) (hcl : ∀ b ∈ chars.data.toList, b.toNat < 128) :
    Calls P (ρ.f 153) #[.string s, .string chars] w fun e w' => e = .returned (.int .i64 (Lib.indexAny s.data.toList chars.data.toList)) ∧ Below w.heap.size w w' := by
  have HA : Aside (∀ j (hj : j < chars.size), (chars[j]'hj).toNat < 128) := hca
  have HL : Aside (∀ b ∈ chars.data.toList, b.toNat < 128) := hcl
  have H2 : Aside (chars.size = 2) := h2
  have hemp : chars.toList.isEmpty = false := by
    rw [Lib.toList_data]
    cases h : chars.data.toList with
    | nil => have := Lib.size_eq chars; rw [h, List.length_nil] at this; omega
    | cons _ _ => rfl
  have hn1 : ((chars.size : Int) == 1) = false := beq_eq_false_iff_ne.2 (by omega)
  have h8z : decide ((8 : Int) < (s.size : Int)) = false := decide_eq_false (by omega)
  clear hca hcl h2
  have t3 := L.t3; have a3 := L.a3; have z3 := L.z3; have v3 := L.v3
  have t4 := L.t4; have a4 := L.a4; have z4 := L.z4; have v4 := L.v4
  have t5 := L.t5; have a5 := L.a5; have z5 := L.z5; have v5 := L.v5
  have t9 := L.t9; have a9 := L.a9; have z9 := L.z9; have v9 := L.v9
  have t21 := L.t21; have a21 := L.a21; have z21 := L.z21; have v21 := L.v21
  have e152 : ∀ args w, (callFunc (ρ.f 152) args).run P w = .ok (.enter (ρ.f 152) args) w := enters_of L.f152 (by kernel_rfl) rfl
  have e226 : ∀ args w, (callFunc (ρ.f 226) args).run P w = .ok (.enter (ρ.f 226) args) w := enters_of L.f226 (by kernel_rfl) rfl
  go_enter L.f153, Body.n153_ntmps ρ
  go_wp2_with (go_at_fn (ρ.f 226); refine (Any.strings_shouldUseASCIISet { L with } _ _).mono ?_; rintro e w' ⟨rfl, hw⟩; rw [hw, h8z])
  go_loopg [9, 10] s.size (fun g _ _ wx => ∃ i : Nat, i + g = s.size ∧ wx.heap[w.heap.size]? = some (.stringIter s i) ∧ Below w.heap.size w wx ∧ Lib.NoAny s.data.toList chars.data.toList i)
  case atStart => exact ⟨0, by omega, World.iter_heap w s 0, (Below.refl _ _).alloc (Nat.le_refl _) _, Lib.NoAny.zero _ _⟩
  case round =>
    obtain ⟨i, hig, hit, hbl, hno⟩ := hrel
    have HN : Aside (Lib.NoAny s.data.toList chars.data.toList i) := hno
    have HB : Aside (Below w.heap.size w wr) := hbl
    have HI : Aside (wr.heap[w.heap.size]? = some (.stringIter s i)) := hit
    clear hno hbl
    cases gk with
    | zero =>
      obtain rfl : i = s.size := by omega
      have hnx := fun ty => run_next_over (P := P) wr w.heap.size s s.size ty hit (by omega)
      clear hit
      go_wp2
      go_ret
      exact ⟨by rw [Lib.indexAny_none (by rw [← Lib.size_eq]; exact HN.out)]; rfl, HB.out⟩
    | succ g =>
      have hi : i < s.size := by omega
      have hnx := fun ty => run_next_at (P := P) wr w.heap.size s i ty hit hi
      have hlt : w.heap.size < wr.heap.size := (Array.getElem?_eq_some_iff.1 hit).1
      clear hit
      obtain ⟨x, hx⟩ : ∃ x : UInt8, s[i]'hi = x := ⟨_, rfl⟩
      have hxl : s.data.toList[i]? = some x := by rw [← hx]; exact Lib.data_getElem? s i hi
      by_cases hx128 : x.toNat < 128
      · have hdec := decode_ascii s i hi (by rw [hx]; exact hx128)
        rw [hx] at hdec
        rw [hdec] at hnx
        dsimp only at hnx
        have Hx : Aside (s.data.toList[i]? = some x) := hxl
        have hw3 := set_iter (o := .stringIter s (i + 1)) HB.out hlt
        generalize hwy : ({ wr with heap := wr.heap.setIfInBounds w.heap.size (.stringIter s (i + 1)) } : World) = wy at *
        have HW : Aside (Below w.heap.size w wy ∧ wy.heap[w.heap.size]? = some (.stringIter s (i + 1)) ∧ w.heap.size < wy.heap.size) := hw3
        clear hw3 hwy hxl hx hdec hlt
        have hcon := Lib.contains_iff_indexByte chars.data.toList x
        have hback : ((x.toNat : Int)).toNat.toUInt8 = x := by simp
        cases hin : chars.data.toList.contains x
        · rw [hin] at hcon
          have hlt : ¬ ((0 : Int) ≤ Lib.indexByte chars.data.toList x) := of_decide_eq_false hcon.symm
          clear hcon
          go_wp2_with (go_at_fn (ρ.f 152); refine (Any.strings_IndexRune_ascii { L with } _ _ _ (by omega) (by omega)).mono ?_; rintro e w' ⟨rfl, hw⟩; rw [hw, hback])
          go_roundg g
          case measure => omega
          case rel => exact ⟨i + 1, by omega, HW.out.2.1, HW.out.1, HN.out.succ Hx.out hin⟩
        · rw [hin] at hcon
          have hge : (0 : Int) ≤ Lib.indexByte chars.data.toList x := of_decide_eq_true hcon.symm
          clear hcon
          go_wp2_with (go_at_fn (ρ.f 152); refine (Any.strings_IndexRune_ascii { L with } _ _ _ (by omega) (by omega)).mono ?_; rintro e w' ⟨rfl, hw⟩; rw [hw, hback])
          go_ret
          exact ⟨by rw [Lib.indexAny_hit HN.out Hx.out hin]; rfl, HW.out.1⟩
      · obtain ⟨r, k, hdec, hr1, hr2, hk1, hk2, hk3⟩ := dec_hi s i hi (by rw [hx]; omega)
        rw [hdec] at hnx
        dsimp only at hnx
        have hw3 := set_iter (o := .stringIter s (i + k)) HB.out hlt
        generalize hwy : ({ wr with heap := wr.heap.setIfInBounds w.heap.size (.stringIter s (i + k)) } : World) = wy at *
        have HW : Aside (Below w.heap.size w wy ∧ wy.heap[w.heap.size]? = some (.stringIter s (i + k)) ∧ w.heap.size < wy.heap.size) := hw3
        have HK : Aside (∀ j, j < k → ∀ b, s.data.toList[i + j]? = some b → 128 ≤ b.toNat) := hk3
        clear hw3 hwy hxl hx hdec hlt hk3
        have hm1 : ¬ ((0 : Int) ≤ -1) := by decide
        go_wp2_with (go_at_fn (ρ.f 152); refine (Any.IndexRune_hi { L with } _ _ _ (by omega) (by omega) H2.out HA.out).mono ?_; rintro e w' ⟨rfl, hw⟩; have HX : Aside (Below wy.heap.size wy w') := hw; clear hw)
        go_roundg (s.size - (i + k))
        case measure => omega
        case rel => exact ⟨i + k, by omega, (HX.out.block _ HW.out.2.2).trans HW.out.2.1, HW.out.1.trans (HX.out.mono (Nat.le_of_lt HW.out.2.2)), NoAny.hi HN.out HK.out HL.out⟩
/-- strings.ContainsAny at whatever text and two ASCII bytes. -/
theorem Any.ContainsAny2 (L : Lays.n150 P ρ) (h116 : (P.info? (ρ.t 116)).map (fun i => (i.zero, i.size)) = some (some (.agg (Array.replicate 256 (.bool false))), 256)) (s chars : ByteArray) (w : World) (hs : s.size < 4294967281) (h2 : chars.size = 2) (hca : ∀ j (hj : j < chars.size), (chars[j]'hj).toNat < 128) (hcl : ∀ b ∈ chars.data.toList, b.toNat < 128) :
    Calls P (ρ.f 150) #[.string s, .string chars] w fun e w' => e = .returned (.bool (Lib.containsAny s.data.toList chars.data.toList)) ∧ Below w.heap.size w w' := by
  have c : Calls P (ρ.f 153) #[.string s, .string chars] w fun e w' => e = .returned (.int .i64 (Lib.indexAny s.data.toList chars.data.toList)) ∧ Below w.heap.size w w' := by
    by_cases h8 : s.size ≤ 8
    · exact Any.IndexAny_short2 { L with } s chars w h2 h8 hca hcl
    · refine (Any.strings_IndexAny_long { L with } (zero_of_info h116).1 (zero_of_info h116).2 s chars w (by omega) (by omega) hs (by omega) (fun j b hj => hcl b (List.mem_of_getElem? hj))).mono fun e w' ⟨h1, h2⟩ => ⟨h1, ?_⟩
      rw [h2]
      exact ((Below.refl _ _).alloc (Nat.le_refl _) _).alloc (by simp) _
  have t3 := L.t3; have a3 := L.a3; have z3 := L.z3; have v3 := L.v3
  have t4 := L.t4; have a4 := L.a4; have z4 := L.z4; have v4 := L.v4
  have t9 := L.t9; have a9 := L.a9; have z9 := L.z9; have v9 := L.v9
  have e153 : ∀ args w, (callFunc (ρ.f 153) args).run P w = .ok (.enter (ρ.f 153) args) w := enters_of L.f153 (by kernel_rfl) rfl
  go_enter L.f150, Body.n150_ntmps ρ
  go_wp2_with (go_at_fn (ρ.f 153); refine c.mono ?_; rintro e w' ⟨rfl, hw⟩)
  go_ret
  exact ⟨rfl, hw⟩
end Go.Proofs
/- Contracts of the library, told of the model's worlds: what they say of the abstract heap. Conditions: those that each theorem names. -/
set_option linter.unusedVariables false
set_option linter.unusedSimpArgs false
namespace Go.Sim
open Go.RowKit
variable {P : Program} {FB : Nat → Prop} {w0 : World} {μ : Nat → Option Loc} {h : AH} {w w' : World}
/-- A world that is as it was up to its old end. -/
theorem Sim.below (s : Sim P FB w0 μ h w) (b : Below w.heap.size w w') : Sim P FB w0 μ h w' where
  os := b.os.trans s.os
  tape := b.tape.trans s.tape
  out := b.output.trans s.out
  frame := fun k hk => by
    have := s.frame k hk
    exact ⟨Nat.lt_of_lt_of_le this.1 b.size, (b.block k this.1).trans this.2⟩
  dom := s.dom
  big := s.big
  glob := s.glob
  tab := s.tab
  cell := fun i l cs st ln hm ho j hj => by
    obtain ⟨cv, hc, hv⟩ := s.cell i l cs st ln hm ho j hj
    refine ⟨cv, ?_, hv⟩
    have hlt := World.block_lt_of_cell? w _ hc
    rw [b.cell hlt]
    exact hc
  blk := fun i l cs st ln hm ho hst => by
    obtain ⟨a1, ⟨arr, e, fz, e1, e2⟩, a3⟩ := s.blk i l cs st ln hm ho hst
    exact ⟨a1, ⟨arr, e, fz, (b.block _ (Array.getElem?_eq_some_iff.1 e1).1).trans e1, e2⟩, a3⟩
  rob := s.rob
  onec := s.onec
  sep := s.sep
  tip := s.tip
  tipu := s.tipu
  solo := s.solo
  lin := s.lin
  linc := s.linc
  mp := fun i l es hm ho => by
    obtain ⟨a1, ents, clock, e1, e2⟩ := s.mp i l es hm ho
    exact ⟨a1, ents, clock, (b.block _ (Array.getElem?_eq_some_iff.1 e1).1).trans e1, e2⟩
  mpu := s.mpu
/-- A contract of the library over texts and numbers. -/
theorem CD.bridge {f : FuncId} {args : List Value} {V : Value} (hb : callB P f = true) (hp : ∀ a ∈ args, isPlain a = true) (hv : isPlain V = true)
    (c : ∀ w : World, Calls P f args.toArray w fun e w' => e = .returned V ∧ Below w.heap.size w w') : CD P f args h V h := by
  refine CE.call hb ?_
  intro FB w0 μ w cargs R' s la hk
  have e : cargs = args.toArray := by
    apply Array.ext'
    rw [List.toList_toArray]
    apply List.ext_getElem la.1.symm
    intro j h1 h2
    have := la.2 j h2 h1
    have pj := hp _ (List.getElem_mem h2)
    generalize args[j] = x at this pj
    generalize cargs.toList[j] = y at this
    cases this <;> first
      | rfl
      | (simp [isPlain] at pj; done)
      | (rename_i a a' hs e; simp [isPlain] at pj; subst pj; exact congrArg Value.tuple (Array.eq_empty_of_size_eq_zero hs.symm))
  subst e
  refine (c w).mono fun e w' ⟨h1, h2⟩ => ?_
  subst h1
  exact hk V h μ V w' ⟨rfl, rfl⟩ ⟨s.below h2, Ext.refl _, Unt.refl _ _⟩ (.plain V hv)
/-- Is one of two bytes in a text? -/
def hasAny (s : ByteArray) (a b : Nat) : Bool := !(allAt s fun x => decide (x ≠ a) && decide (x ≠ b))
theorem hasAny_lib (s : ByteArray) (a b : UInt8) : Lib.containsAny s.data.toList [a, b] = hasAny s a.toNat b.toNat := by
  have key : ∀ l : List UInt8, Lib.containsAny l [a, b] = l.any fun x => x == a || x == b := by
    intro l
    induction l with
    | nil => rfl
    | cons x l ih =>
      unfold Lib.containsAny at ih ⊢
      have hge := Lib.indexAny_ge [a, b] l
      rw [List.any_cons, ← ih]
      show decide (0 ≤ (if [a, b].contains x then 0 else if Lib.indexAny l [a, b] == -1 then -1 else Lib.indexAny l [a, b] + 1)) = _
      have hc : [a, b].contains x = (x == a || x == b) := by rw [Bool.eq_iff_iff]; simp
      rw [hc]
      cases hx : (x == a || x == b) with
      | true => rfl
      | false =>
        simp only [Bool.false_eq_true, if_false, Bool.false_or]
        by_cases e : Lib.indexAny l [a, b] = -1
        · rw [e]; rfl
        · rw [if_neg (by simpa using e)]
          rw [Bool.eq_iff_iff, decide_eq_true_eq, decide_eq_true_eq]
          omega
  rw [key]
  unfold hasAny allAt
  rw [Bool.eq_iff_iff]
  simp only [List.any_eq_true, Bool.or_eq_true, beq_iff_eq, Bool.not_eq_true', List.all_eq_false, List.mem_range, Bool.and_eq_true, decide_eq_true_eq, not_and, Classical.not_not]
  constructor
  · rintro ⟨x, hx, e⟩
    obtain ⟨i, hi, rfl⟩ := List.getElem_of_mem hx
    have hi' : i < s.size := by rw [Lib.size_eq]; exact hi
    have hb : byteAt s i = s.data.toList[i] := by
      simp only [byteAt, Array.getD, show i < s.data.size from hi', dite_true]
      simp
    refine ⟨i, hi', fun n => ?_⟩
    rw [hb] at n ⊢
    rcases e with e | e
    · rw [e] at n; exact absurd rfl n
    · rw [e]
  · rintro ⟨i, hi, n⟩
    have hi2 : i < s.data.toList.length := by rw [← Lib.size_eq]; exact hi
    have hb : byteAt s i = s.data.toList[i] := by
      simp only [byteAt, Array.getD, show i < s.data.size from hi, dite_true]
      simp
    refine ⟨s.data.toList[i], List.getElem_mem hi2, ?_⟩
    rw [hb] at n
    by_cases e : s.data.toList[i].toNat = a.toNat
    · exact .inl (UInt8.toNat.inj e)
    · exact .inr (UInt8.toNat.inj (by have := n (by omega); omega))
end Go.Sim
/- Contracts of the library that write a slice in place: what they say of the abstract heap. Conditions: those that each theorem names. -/
set_option linter.unusedVariables false
set_option linter.unusedSimpArgs false
namespace Go.Sim
open Go.RowKit Go.Sort
variable {P : Program} {FB : Nat → Prop} {w0 : World} {μ : Nat → Option Loc} {h : AH} {w w' : World}
def setA (arr : Array Value) : Nat → List Value → Array Value
  | _, [] => arr
  | o, v :: r => setA (arr.setIfInBounds o v) (o + 1) r
theorem setA_get (k : Nat) : ∀ (vs : List Value) (arr : Array Value) (o : Nat), o + vs.length ≤ arr.size → (setA arr o vs)[k]? = if o ≤ k ∧ k < o + vs.length then vs[k - o]? else arr[k]?
  | [], arr, o, _ => by
    rw [setA, if_neg (by simp)]
  | v :: r, arr, o, hb => by
    simp only [List.length_cons] at hb
    rw [setA, setA_get k r _ _ (by rw [Array.size_setIfInBounds]; omega)]
    by_cases e : k = o
    · subst e
      rw [if_neg (by omega), if_pos (by simp), Nat.sub_self, Array.getElem?_setIfInBounds_self_of_lt (by omega)]
      rfl
    · by_cases h1 : o + 1 ≤ k ∧ k < o + 1 + r.length
      · rw [if_pos h1, if_pos (by simp only [List.length_cons]; omega), show k - o = (k - (o + 1)) + 1 by omega, List.getElem?_cons_succ]
      · rw [if_neg h1, if_neg (by simp only [List.length_cons]; omega), Array.getElem?_setIfInBounds_ne (Ne.symm e)]
theorem heap_setA (b : Nat) : ∀ (vs : List Value) (o : Nat) (w : World) (arr : Array Value) (e : TypeId) (fz : Nat × Nat), w.heap[b]? = some (.cells arr e fz) → (w.setCells b o vs).heap[b]? = some (.cells (setA arr o vs) e fz)
  | [], _, _, _, _, _, hb => hb
  | v :: r, o, w, arr, e, fz, hb => by
    rw [World.setCells, setA]
    refine heap_setA b r (o + 1) _ _ e fz ?_
    simp [World.setCell, Array.getElem?_modify, hb]
theorem putRow_heap {α : Type} [Inhabited α] (enc : α → Value) (w : World) (blk off : Nat) (ys : Array α) {arr : Array Value} {e : TypeId} {fz : Nat × Nat} (hb : w.heap[blk]? = some (.cells arr e fz)) (hsz : off + ys.size ≤ arr.size) :
    (putRow enc w blk off ys).heap = (w.setCells blk off (ys.toList.map enc)).heap := by
  have hlen : (ys.toList.map enc).length = ys.size := by simp
  apply Array.ext_getElem?
  intro k
  by_cases hk : k = blk
  · subst hk
    rw [heap_setA k _ _ _ _ _ _ hb]
    have : (putRow enc w k off ys).heap[k]? = some (.cells (putCells enc off ys arr) e fz) := by
      unfold putRow mapBlock
      simp [Array.getElem?_modify, hb, onCells]
    rw [this]
    congr 2
    apply Array.ext_getElem?
    intro j
    rw [setA_get j _ _ _ (by rw [hlen]; exact hsz), hlen]
    unfold putCells
    rw [Array.getElem?_mapIdx]
    by_cases hj : off ≤ j ∧ j < off + ys.size
    · rw [if_pos hj]
      have h1 : j < arr.size := by omega
      have h2 : j - off < ys.size := by omega
      rw [Array.getElem?_eq_getElem h1]
      simp only [Option.map_some, hj, and_self, if_true]
      rw [List.getElem?_map, Array.getElem?_toList, Array.getElem?_eq_getElem h2]
      simp [getElem!_pos, h2]
    · rw [if_neg hj]
      cases arr[j]? with
      | none => rfl
      | some v => simp [hj]
  · rw [heap_setCells_ne _ _ hk]
    unfold putRow mapBlock
    simp [Array.getElem?_modify, Ne.symm hk]
theorem Sim.grown (s : Sim P FB w0 μ h w) (os : Array Obj) : Sim P FB w0 μ h (grow w os) :=
  s.below ⟨rfl, rfl, rfl, by show w.heap.size ≤ (w.heap ++ os).size; rw [Array.size_append]; omega, fun k hk => by
    show (w.heap ++ os)[k]? = _
    rw [Array.getElem?_append_left hk]⟩
theorem VR.plain_eq {x y : Value} (v : VR μ x y) (hp : isPlain x = true) : y = x := by
  cases v <;> first
    | rfl
    | (simp [isPlain] at hp; done)
    | (rename_i a a' hs e; simp [isPlain] at hp; subst hp; exact congrArg Value.tuple (Array.eq_empty_of_size_eq_zero hs.symm))
theorem putL_all (cs vs : List Value) (h : vs.length = cs.length) : putL cs 0 vs = vs := by
  apply List.ext_getElem?
  intro m
  by_cases hm : m < vs.length
  · rw [putL_in' (by omega) (by omega) (by omega), Nat.sub_zero]
  · rw [List.getElem?_eq_none (by rw [putL_length]; omega), List.getElem?_eq_none (by omega)]
/-- A contract of the library over one slice of the caller's own, which it writes. -/
theorem CC.row {α : Type} [Inhabited α] {f : FuncId} (hb : callB P f = true) (enc : α → Value) (hp : ∀ a, isPlain (enc a) = true) (h1 : ∀ a, one (enc a) = true) (xs ys : List α) (hlen : ys.length = xs.length) (hn : 0 < xs.length) (V : Value) (rv : Nat → Nat → Nat → Value) (id off : Nat)
    (hV : ∀ μ l cap, μ id = some l → xs.length ≤ cap → off + cap * 1 ≤ l.room → VR μ (V) (rv l.b (l.o + off) cap))
    (c : ∀ (blk off cap : Nat) (w : World), Holds enc w blk off xs.toArray → blk < w.heap.size → xs.length ≤ cap → Calls P f #[.slice (some ⟨blk, off, none⟩) xs.length cap] w fun e w' => e = .returned (rv blk off cap) ∧ ∃ n os, w' = grow (putRow enc (Sort.ahead w n) blk off ys.toArray) os)
    (o : Own h id off xs.length 1 (xs.map enc)) : CC P f [.slice (some ⟨id, off, none⟩) xs.length 1] h (fun v h' => v = V ∧ Own h' id off xs.length 1 (ys.map enc) ∧ Wr h h' id) := by
  refine CE.call hb ?_
  intro FB w0 μ w cargs R' s la hk
  obtain ⟨all, st, ln, e, hs, hl, hd⟩ := o.ob
  have hvl : (ys.map enc).length = xs.length := by rw [List.length_map, hlen]
  have hst : st ≠ .ro := by rcases hs with rfl | rfl <;> simp
  have hw := o.wr (lo := 0) (vs := ys.map enc) (by rw [hvl]; omega) (K := fun h' => Own h' id off xs.length 1 (putL (xs.map enc) 0 (ys.map enc)) ∧ Wr h h' id) (fun h' a b => ⟨a, b⟩)
  rw [Nat.add_zero, ← wr_eq] at hw
  cases hr : wr h id off (ys.map enc) with
  | none => rw [hr] at hw; exact hw.elim
  | some h' =>
  rw [hr] at hw
  obtain ⟨hown, hwr⟩ := (show _ ∧ _ from hw)
  rw [show putL (xs.map enc) 0 (ys.map enc) = ys.map enc from putL_all _ _ (by simp [hlen])] at hown
  obtain ⟨cv, rfl⟩ : ∃ cv, cargs = #[cv] := by
    have h1 : cargs.toList.length = 1 := la.1.symm
    have h2 : cargs.size = 1 := by simpa using h1
    exact ⟨cargs[0], by apply Array.ext; · simp [h2]
                        · intro i a b; have : i = 0 := by omega
                          subst this; rfl⟩
  have hcv : VR μ (.slice (some ⟨id, off, none⟩) xs.length 1) cv := la.2 0 (by simp) (by simp)
  generalize hN : xs.length = N at hcv hn hvl
  cases hcv with
  | plain v hh => simp [isPlain] at hh
  | slz i off k l hm ho A' => omega
  | sl i off' n k cap l hm hn2 hroom =>
    subst hN
    obtain ⟨hfb, hblk, hro⟩ := s.blk id l all st ln hm e hst
    have hholds : Holds enc w l.b (l.o + off) xs.toArray := fun j hj => by
      have hj' : j < xs.length := by simpa using hj
      obtain ⟨c1, hc1, hv1⟩ := s.cell id l all st ln hm e (off + j) (by omega)
      have hx : all[off + j]'(by omega) = enc xs[j] := by
        have := congrArg (·[j]?) hd
        simp only [List.getElem?_drop, List.getElem?_map] at this
        rw [List.getElem?_eq_getElem (by omega), List.getElem?_eq_getElem hj'] at this
        exact Option.some.inj this
      rw [hx] at hv1
      have hc2 : c1 = enc xs[j] := by
        have := hp xs[j]
        generalize enc xs[j] = x at hv1 this
        exact VR.plain_eq hv1 this
      refine ⟨?_, ?_⟩
      · rw [Nat.add_assoc, hc1, hc2]
        simp [hj']
      · rw [Nat.add_assoc]; exact hblk.frozen (by omega)
    refine (c l.b (l.o + off) cap w hholds (s.lt hm e hst) hn2).mono fun e' w' ⟨h2, n, os, h3⟩ => ?_
    subst h2 h3
    have s1 : Sim P FB w0 μ h (Sort.ahead w n) := s.drawn (w.drawn + n)
    have hpost := (s1.write hm hr (cvs := ys.map enc) ⟨rfl, fun j a b => .plain _ (by rw [List.getElem_map]; exact hp _)⟩ (fun v hv => by obtain ⟨a, _, rfl⟩ := List.mem_map.1 hv; exact h1 a)).1
    obtain ⟨arr, ee, fz, b1, b2, b3⟩ := hblk
    have hheap := putRow_heap enc (Sort.ahead w n) l.b (l.o + off) ys.toArray (arr := arr) (e := ee) (fz := fz) b1 (by rw [b2]; simp only [List.size_toArray]; omega)
    rw [List.toList_toArray] at hheap
    have z := size_setCells l.b (ys.map enc) (l.o + off) (Sort.ahead w n)
    have sP : Sim P FB w0 μ h' (putRow enc (Sort.ahead w n) l.b (l.o + off) ys.toArray) := hpost.sim.same hheap (by rw [z.2.1]; rfl) (by rw [z.2.2.1]; rfl) (by rw [z.2.2.2]; rfl)
    exact hk V h' μ _ _ ⟨rfl, hown, hwr⟩ ⟨sP.grown os, hpost.ext, hpost.unt⟩ (hV μ l cap hm hn2 hroom)
theorem grow_nil (w : World) : grow w #[] = w := by unfold grow; rw [Array.append_empty]
end Go.Sim
/- Slices of the call's own, whose lines are the call's own: writing them leaves elder objects alone. Conditions: none. -/
set_option linter.unusedVariables false
set_option linter.unusedSimpArgs false
namespace Go.Sim
variable {P : Program} {h h0 : AH}
/-- Lines do not lie above their objects. -/
def Lin (h : AH) : Prop := ∀ i n, (h.ob i).own = some n → n ≤ i
theorem CC.withLin {f : FuncId} {args : List Value} {R : Value → AH → Prop} (hc : Lin h → CC P f args h R) : CC P f args h R := fun FB w0 μ w cargs o a K Q s => hc s.lin FB w0 μ w cargs o a K Q s
/-- The value's line is of the call's own. -/
def Lo (n0 : Nat) (h : AH) (v : Value) : Prop := ∀ i, atBlock v i → ∀ l, Line h i l → n0 ≤ l
theorem Lo.keep {n0 : Nat} {h' : AH} {v : Value} (w : Lo n0 h v) (e : ∀ i, atBlock v i → h'.ob i = h.ob i) : Lo n0 h' v := fun i hi l hl => w i hi l (by
  obtain ⟨a, s, e1, hs⟩ := hl.ob
  exact ⟨a, s, (e i hi).symm.trans e1, hs⟩)
structure GrL (n0 : Nat) (h : AH) (v : Value) (k : Nat) (cs : List Value) : Prop where
  gr : Gr n0 h v k cs
  lo : Lo n0 h v
theorem GrL.keep {n0 : Nat} {h' : AH} {v : Value} {k : Nat} {cs : List Value} (w : GrL n0 h v k cs) (hn : h.n ≤ h'.n) (e : ∀ i, atBlock v i → h'.ob i = h.ob i) : GrL n0 h' v k cs := ⟨w.gr.keep hn e, w.lo.keep e⟩
theorem Gr.lt {n0 : Nat} {v : Value} {k : Nat} {cs : List Value} (w : Gr n0 h v k cs) {i : Nat} (e : atBlock v i) : n0 ≤ i ∧ i < h.n := by
  rcases w with ⟨c, rfl, rfl⟩ | ⟨id, off, n, rfl, b, o⟩
  · exact e.elim
  · have e' : id = i := e
    have := o.lt
    omega
theorem GrL.pre {n0 : Nat} {h' : AH} {v : Value} {k : Nat} {cs : List Value} (w : GrL n0 h v k cs) (p : Pre h h') : GrL n0 h' v k cs := w.keep p.n (fun i e => p.ob i (w.gr.lt e).2)
theorem GrL.nil (n0 : Nat) (h : AH) (c k : Nat) : GrL n0 h (.slice none 0 c) k [] := ⟨Gr.nil _ _ _ _, fun _ e => e.elim⟩
theorem GrL.new {n0 : Nat} (hn : n0 ≤ h.n) (cs : List Value) (n k : Nat) (e : cs.length = n * k) : GrL n0 (h.alloc (.cells cs .solo h.n)) (.slice (some ⟨h.n, 0, none⟩) n k) k cs := ⟨Gr.new hn cs n k e, fun i hi l hl => by
  have e' : h.n = i := hi
  subst e'
  obtain ⟨a, s, e1, hs⟩ := hl.ob
  rw [alloc_same] at e1
  injection e1 with _ _ e1
  omega⟩
/-- An append of new elements to a slice of the call's own; its line stays. -/
theorem app_ownL {t u e : TypeId} {s b : Nat} {z : List Value} {ag : Bool} {id off n : Nat} {cs new : List Value} {m : Nat} {x : Value} {K : Value → AH → Prop}
    (hs : si P t = some (e, ⟨s, b, z, ag⟩)) (hpos : 0 < s) (hby : b ≤ 256) (hu : notInt (P.underlying u)) (w : Own h id off n s cs) (hx : asrc h s x = some (m, new)) (hm : new.length = m * s) (hb : n + m < 274877906944)
    (hk : ∀ h', Own h' h.n 0 (n + m) s (cs ++ new) → (∀ l, Line h' h.n l → Line h id l) → h'.n = h.n + 1 → (∀ i, i < h.n → i ≠ id → h'.ob i = h.ob i) → K (.slice (some ⟨h.n, 0, none⟩) (n + m) s) h') :
    aappend P h t u (.slice (some ⟨id, off, none⟩) n s) x K := by
  obtain ⟨all, st, ln, ho, hst, hl, rfl⟩ := w.ob
  have hne : h.n ≠ id := fun e => by have := w.lt; omega
  refine aapp_to ?_
  unfold aapp
  rw [hs]
  simp only [hx]
  refine ⟨hpos, hby, hu.1, hu.2, ?_⟩
  have hap : apd h id off n s new = some ((h.set id (.cells all .old ln)).alloc (.cells (all.drop off ++ new) .tip ln)) := by
    unfold apd
    rw [ho]
    rcases hst with rfl | rfl <;> simp [hl]
  simp only [hap]
  refine ⟨trivial, hb, ?_⟩
  have e0 : ((h.set id (.cells all .old ln)).alloc (.cells (all.drop off ++ new) .tip ln)).ob h.n = .cells (all.drop off ++ new) .tip ln := alloc_same (h := h.set id (.cells all .old ln)) _
  refine hk ((h.set id (.cells all .old ln)).alloc (.cells (all.drop off ++ new) .tip ln)) ⟨Nat.lt_succ_self h.n, by rw [List.length_append, hm, w.len, Nat.add_mul], all.drop off ++ new, .tip, ln, e0, .inr rfl, ?_, rfl⟩ (fun l hl => ?_) rfl (fun i hi hne' => ?_)
  · rw [List.length_append, hm, w.len, Nat.add_mul]; omega
  · obtain ⟨a, s', e1, _⟩ := hl.ob
    rw [e0] at e1
    injection e1 with _ _ e1
    subst e1
    exact ⟨all, st, ho, hst⟩
  · rw [alloc_lt _ (show i < (h.set id (.cells all .old ln)).n from hi), set_ne _ hne']
theorem GrL.app1 {t u e : TypeId} {s b : Nat} {z : List Value} {ag : Bool} {v : Value} {cs new : List Value} {m c : Nat} {K : Value → AH → Prop}
    (hs : si P t = some (e, ⟨s, b, z, ag⟩)) (hpos : 0 < s) (hby : b ≤ 256) (hu : notInt (P.underlying u)) (w : GrL h0.n h v s cs) (p : Pre h0 h) (hm : new.length = m * s) (hb : cs.length / s + m < 274877906944) (h1 : 0 < m)
    (hk : ∀ h', GrL h0.n h' (.slice (some ⟨h.n + 1, 0, none⟩) (cs.length / s + m) s) s (cs ++ new) → Pre h0 h' → h'.n = h.n + 2 → (∀ i, i < h.n → ¬ atBlock v i → h'.ob i = h.ob i) → K (.slice (some ⟨h.n + 1, 0, none⟩) (cs.length / s + m) s) h') :
    aappend P (h.alloc (.cells new .solo h.n)) t u v (.slice (some ⟨h.n, 0, none⟩) m c) K := by
  have hx := asrc_new (h := h) new s m c hm
  have w1 : GrL h0.n (h.alloc (.cells new .solo h.n)) v s cs := w.pre ((Pre.refl h).alloc _)
  have p1 : Pre h0 (h.alloc (.cells new .solo h.n)) := p.alloc _
  have hn := p.n
  obtain ⟨g, lo⟩ := w1
  rcases g with ⟨c', rfl, rfl⟩ | ⟨id, off, n, rfl, b', o⟩
  · simp only [List.length_nil, Nat.zero_div, Nat.zero_add, List.nil_append] at hk hb
    refine aapp_to ?_
    unfold aapp
    simp only [hs, hx]
    refine ⟨hpos, hby, hu.1, hu.2, hb, .inl ⟨h1, hk _ (GrL.new (h := h.alloc _) (by show h0.n ≤ h.n + 1; omega) new m s hm) (p1.alloc _) rfl (fun i hi _ => (alloc_lt _ (show i < (h.alloc (.cells new .solo h.n)).n from Nat.lt_succ_of_lt hi)).trans (alloc_lt _ hi))⟩⟩
  · have hl : cs.length / s = n := by rw [o.len]; exact Nat.mul_div_cancel n hpos
    rw [hl] at hb hk
    refine app_ownL hs hpos hby hu o hx hm hb (fun h' o' ln hn' he => hk h' ⟨.inr ⟨_, _, _, rfl, by omega, o'⟩, fun i hi l hl => ?_⟩ ⟨by rw [hn']; show h0.n ≤ h.n + 1 + 1; omega, fun i hi => ?_⟩ hn' (fun i hi hv => ?_))
    · have e' : h.n + 1 = i := hi
      subst e'
      exact lo id rfl l (ln l hl)
    · exact (he i (show i < h.n + 1 by omega) (by omega)).trans (p1.ob i hi)
    · exact (he i (show i < h.n + 1 by omega) (fun e => hv e.symm)).trans (alloc_lt _ hi)
/-- An append of whatever is read. -/
theorem GrL.app {n0 : Nat} {t u e : TypeId} {s b : Nat} {z : List Value} {ag : Bool} {v x : Value} {cs new : List Value} {m : Nat} {K : Value → AH → Prop}
    (hs : si P t = some (e, ⟨s, b, z, ag⟩)) (hpos : 0 < s) (hby : b ≤ 256) (hu : notInt (P.underlying u)) (w : GrL n0 h v s cs) (hn : n0 ≤ h.n) (hx : asrc h s x = some (m, new)) (hm : new.length = m * s) (hb : cs.length / s + m < 274877906944)
    (hk : ∀ v' h', GrL n0 h' v' s (cs ++ new) → h.n ≤ h'.n → (∀ i, i < h.n → ¬ atBlock v i → h'.ob i = h.ob i) → (∀ i, atBlock v' i → h.n ≤ i) → K v' h') :
    aappend P h t u v x K := by
  obtain ⟨g, lo⟩ := w
  rcases g with ⟨c', rfl, rfl⟩ | ⟨id, off, n, rfl, b', o⟩
  · refine aapp_to ?_
    unfold aapp
    simp only [hs, hx]
    simp only [List.length_nil, Nat.zero_div, Nat.zero_add] at hb
    refine ⟨hpos, hby, hu.1, hu.2, hb, ?_⟩
    by_cases h0 : m = 0
    · have : new = [] := List.eq_nil_of_length_eq_zero (by rw [hm, h0]; omega)
      subst this
      exact .inr ⟨h0, hk _ _ (GrL.nil _ _ _ _) (Nat.le_refl _) (fun _ _ _ => rfl) (fun _ e => e.elim)⟩
    · exact .inl ⟨by omega, hk _ _ (GrL.new hn new m s hm) (Nat.le_succ _) (fun i hi _ => alloc_lt _ hi) (fun i e => by have e' : h.n = i := e; omega)⟩
  · have hl : cs.length / s = n := by rw [o.len]; exact Nat.mul_div_cancel n hpos
    rw [hl] at hb
    refine app_ownL hs hpos hby hu o hx hm hb (fun h' o' ln hn' he => hk _ h' ⟨.inr ⟨_, _, _, rfl, hn, o'⟩, fun i hi l hl => ?_⟩ (by omega) (fun i hi hv => he i hi (fun e => hv e.symm)) (fun i e => by have e' : h.n = i := e; omega))
    have e' : h.n = i := hi
    subst e'
    exact lo id rfl l (ln l hl)
/-- A write of it leaves elder objects alone. -/
theorem GrL.wr {n0 : Nat} {h' : AH} {id off k m c : Nat} {cs : List Value} (w : GrL n0 h (.slice (some ⟨id, off, none⟩) m c) k cs) (f : Lin h) (x : Wr h h' id) : ∀ i, i < n0 → h'.ob i = h.ob i := fun i hi => by
  have hb := (w.gr.lt (i := id) rfl).1
  refine x.ob i (by omega) (fun l hl e => ?_)
  have := f i l e
  have := w.lo id rfl l hl
  omega
theorem Lo.wr {n0 : Nat} {h' : AH} {id off m c : Nat} (w : Lo n0 h (.slice (some ⟨id, off, none⟩) m c)) (x : Wr h h' id) : ∀ off' m' c', Lo n0 h' (.slice (some ⟨id, off', none⟩) m' c') := fun off' m' c' i hi l hl => by
  have e' : id = i := hi
  subst e'
  exact w id rfl l ((x.line l).2 hl)
/-- The head of a slice of the call's own. -/
structure OwnP (n0 : Nat) (h : AH) (v : Value) (m : Nat) : Prop where
  at_ : (∃ c, v = .slice none 0 c ∧ m = 0) ∨ ∃ id off n all, v = .slice (some ⟨id, off, none⟩) m 1 ∧ n0 ≤ id ∧ m ≤ n ∧ Own h id off n 1 all
  lo : Lo n0 h v
theorem OwnP.keep {n0 m : Nat} {h' : AH} {v : Value} (w : OwnP n0 h v m) (hn : h.n ≤ h'.n) (e : ∀ i, atBlock v i → h'.ob i = h.ob i) : OwnP n0 h' v m := by
  refine ⟨?_, w.lo.keep e⟩
  rcases w.at_ with w | ⟨id, off, n, all, rfl, b, c, o⟩
  · exact .inl w
  · exact .inr ⟨id, off, n, all, rfl, b, c, o.same (e id rfl) hn⟩
theorem OwnP.range {n0 m : Nat} {v : Value} (w : OwnP n0 h v m) {i : Nat} (e : atBlock v i) : n0 ≤ i ∧ i < h.n := by
  rcases w.at_ with ⟨c, rfl, _⟩ | ⟨id, off, n, all, rfl, b, c, o⟩
  · exact e.elim
  · have e' : id = i := e
    have := o.lt
    omega
theorem OwnP.pre {n0 m : Nat} {h' : AH} {v : Value} (w : OwnP n0 h v m) (p : Pre h h') : OwnP n0 h' v m := w.keep p.n (fun i e => p.ob i (w.range e).2)
theorem GrL.ownP {n0 m : Nat} {v : Value} {cs : List Value} (w : GrL n0 h v 1 cs) (e : cs.length = m) : OwnP n0 h v m := by
  refine ⟨?_, w.lo⟩
  rcases w.gr with ⟨c, rfl, rfl⟩ | ⟨id, off, n, rfl, b, o⟩
  · exact .inl ⟨c, rfl, e.symm⟩
  · have := o.len
    exact .inr ⟨id, off, n, cs, by rw [show m = n by omega], b, by omega, o⟩
end Go.Sim
/- One element of a slice that is read whole; what holds of every heap that stands for a world, behind a call; fields written in place. Conditions: those that each theorem names. -/
set_option linter.unusedVariables false
set_option linter.unusedSimpArgs false
namespace Go.Sim
variable {P : Program} {h : AH}
theorem RdV.el {α : Type} {h : AH} {v : Value} {k : Nat} {enc : α → List Value} {l : List α} (r : RdV h v k enc l) (hl : ∀ x, (enc x).length = k) {i : Nat} (hi : i < l.length) : ∃ id off c, v = .slice (some ⟨id, off, none⟩) l.length c ∧ id < h.n ∧ rd h id (off + i * k) k = some (enc l[i]) := by
  rcases r with ⟨c, rfl, rfl⟩ | ⟨id, off, c, rfl, q, hlt⟩
  · cases hi
  · exact ⟨id, off, c, rfl, hlt, chunk_of (n := 0) (fun x _ => hl x) q hi⟩
/-- What holds of every heap that stands for a world. -/
structure Wf (h : AH) : Prop where
  lin : Lin h
  fit : Fit h
  big : Big h
theorem CC.wf {f : FuncId} {args : List Value} {R : Value → AH → Prop} (hc : CC P f args h R) : CC P f args h (fun v h' => R v h' ∧ Wf h') :=
  fun FB w0 μ w cargs o a K Q s ha hk => hc FB w0 μ w cargs o a K Q s ha (fun v h' μ' cv w' r p hv => hk v h' μ' cv w' ⟨r, p.sim.lin, ⟨p.sim.tipu, p.sim.solo⟩, p.sim.big⟩ p hv)
theorem CC.withWf {f : FuncId} {args : List Value} {R : Value → AH → Prop} (hc : Wf h → CC P f args h R) : CC P f args h R := fun FB w0 μ w cargs o a K Q s => hc ⟨s.lin, ⟨s.tipu, s.solo⟩, s.big⟩ FB w0 μ w cargs o a K Q s
theorem Lin.alloc (l : Lin h) (cs : List Value) : Lin (h.alloc (.cells cs .solo h.n)) := fun i n e => by
  by_cases c : i = h.n
  · subst c
    rw [alloc_same] at e
    simp [AOb.own] at e
    omega
  · have : (h.alloc (.cells cs .solo h.n)).ob i = h.ob i := by simp [AH.alloc, c]
    rw [this] at e; exact l i n e
theorem Fit.alloc (f : Fit h) (l : Lin h) (b : Big h) (cs : List Value) : Fit (h.alloc (.cells cs .solo h.n)) := by
  have old : ∀ i, i ≠ h.n → (h.alloc (.cells cs .solo h.n)).ob i = h.ob i := fun i c => by simp [AH.alloc, c]
  refine ⟨fun i j ci cj n ei ej => ?_, fun i ci n ei => ?_⟩
  · by_cases c : i = h.n
    · subst c; rw [alloc_same] at ei; cases ei
    · by_cases c2 : j = h.n
      · subst c2; rw [alloc_same] at ej; cases ej
      · rw [old i c] at ei; rw [old j c2] at ej; exact f.tipu i j ci cj n ei ej
  · by_cases c : i = h.n
    · subst c
      rw [alloc_same] at ei
      injection ei with _ _ e3
      refine ⟨e3.symm, fun j ej => ?_⟩
      by_cases c2 : j = h.n
      · exact c2
      · rw [old j c2] at ej
        have := l j _ ej
        have hn := b j this
        rw [hn] at ej
        cases ej
    · rw [old i c] at ei
      have := f.solo i ci n ei
      refine ⟨this.1, fun j ej => ?_⟩
      by_cases c2 : j = h.n
      · subst c2
        rw [alloc_same] at ej
        simp [AOb.own] at ej
        omega
      · rw [old j c2] at ej; exact this.2 j ej
theorem Wf.alloc (w : Wf h) (cs : List Value) : Wf (h.alloc (.cells cs .solo h.n)) := ⟨w.lin.alloc cs, w.fit.alloc w.lin w.big cs, w.big.alloc _⟩
/-! ### elements of so many cells each: one is written -/
theorem putL_app_left : ∀ (vs a b : List Value) (o : Nat), o + vs.length ≤ a.length → putL (a ++ b) o vs = putL a o vs ++ b
  | [], _, _, _, _ => rfl
  | v :: r, a, b, o, h => by
    simp only [List.length_cons] at h
    rw [putL, putL, List.set_append_left _ _ (by omega), putL_app_left r _ b (o + 1) (by rw [List.length_set]; omega)]
theorem putL_app_right : ∀ (vs a b : List Value) (o : Nat), putL (a ++ b) (a.length + o) vs = a ++ putL b o vs
  | [], _, _, _ => rfl
  | v :: r, a, b, o => by
    rw [putL, putL, List.set_append_right _ _ (by omega), Nat.add_sub_cancel_left, Nat.add_assoc]
    exact putL_app_right r a (b.set o v) (o + 1)
theorem putL_flat {α : Type} {enc : α → List Value} {c : Nat} (hl : ∀ x, (enc x).length = c) : ∀ (l : List α) (k : Nat) (hk : k < l.length) (j : Nat) (vs : List Value) (y : α), j + vs.length ≤ c → putL (enc l[k]) j vs = enc y →
    putL (l.map enc).flatten (k * c + j) vs = ((l.set k y).map enc).flatten
  | x :: r, 0, _, j, vs, y, hj, e => by
    simp only [List.getElem_cons_zero] at e
    rw [Nat.zero_mul, Nat.zero_add, List.map_cons, List.flatten_cons, putL_app_left _ _ _ _ (by rw [hl]; exact hj), e]
    rfl
  | x :: r, k + 1, hk, j, vs, y, hj, e => by
    simp only [List.getElem_cons_succ] at e
    have ih := putL_flat hl r k (by simpa using hk) j vs y hj e
    rw [List.map_cons, List.flatten_cons, show (k + 1) * c + j = (enc x).length + (k * c + j) by rw [hl, Nat.add_mul]; omega, putL_app_right, ih]
    rfl
theorem GrL.open {n0 : Nat} {v : Value} {k m : Nat} {cs : List Value} (w : GrL n0 h v k cs) (hm : cs.length = m * k) (h0 : 0 < m) (hk : 0 < k) : ∃ id off, v = .slice (some ⟨id, off, none⟩) m k ∧ Own h id off m k cs ∧ n0 ≤ id ∧ id < h.n := by
  have hmk : 0 < m * k := Nat.mul_pos h0 hk
  rcases w.gr with ⟨c, rfl, rfl⟩ | ⟨id, off, n, rfl, b, o⟩
  · simp at hm; omega
  · have hn : n = m := by
      have := o.len
      rw [hm] at this
      exact (Nat.eq_of_mul_eq_mul_right hk this).symm
    subst hn
    exact ⟨id, off, rfl, o, b, o.lt⟩
theorem line_solo {i ln : Nat} {cs : List Value} (e : h.ob i = .cells cs .solo ln) : Line h i ln := ⟨_, _, e, .inl rfl⟩
/-- What another object is, when one's own slice was written. -/
theorem Wr.solo {h' : AH} {id : Nat} (x : Wr h h' id) (f : Fit h) {j ln : Nat} {cs : List Value} (e : h.ob j = .cells cs .solo ln) (hj : j ≠ id) : h'.ob j = h.ob j :=
  x.ob j hj (fun l hl => f.ne hl (line_solo e) (Ne.symm hj))
theorem Gr.open {n0 : Nat} {v : Value} {k m : Nat} {cs : List Value} (w : Gr n0 h v k cs) (hm : cs.length = m * k) (h0 : 0 < m) (hk : 0 < k) : ∃ id off, v = .slice (some ⟨id, off, none⟩) m k ∧ Own h id off m k cs ∧ n0 ≤ id ∧ id < h.n := by
  have hmk : 0 < m * k := Nat.mul_pos h0 hk
  rcases w with ⟨c, rfl, rfl⟩ | ⟨id, off, n, rfl, b, o⟩
  · simp at hm; omega
  · have hn : n = m := by
      have := o.len
      rw [hm] at this
      exact (Nat.eq_of_mul_eq_mul_right hk this).symm
    subst hn
    exact ⟨id, off, rfl, o, b, o.lt⟩
theorem wt_undef (i : Nat) (S : List (Nat × Nat)) : wt i undef S = S := rfl
end Go.Sim
/- Code: when it is right. Conditions: none. -/
set_option linter.unusedSimpArgs false
set_option linter.unusedVariables false
namespace Go.Sim
structure Ins where
  op : Int
  arg : Int
  deriving DecidableEq
structure Cod where
  texts : List ByteArray
  list : List Ins
  bgn : Int
  line : Int
  fin : Int
  deriving DecidableEq
def encTx (s : ByteArray) : List Value := [.string s]
def encN (x : Ins) : List Value := [.int .i64 x.op, .int .i64 x.arg]
def insOk (x : Ins) : Bool := inB x.op 1 24 && inB x.arg 0 255
def named (op : Int) : Bool := decide (op = 2) || decide (op = 3) || inB op 17 20 || decide (op = 24)
def texted (op : Int) : Bool := decide (op = 1) || decide (op = 15) || named op
def takesP (x : Ins) : Int :=
  if x.op = 3 ∨ x.op = 4 ∨ x.op = 7 ∨ x.op = 15 ∨ x.op = 17 ∨ x.op = 18 ∨ x.op = 21 then 1
  else if (8 ≤ x.op ∧ x.op ≤ 14) ∨ x.op = 19 ∨ x.op = 20 then 2
  else if x.op = 16 then x.arg else 0
def putsP (x : Ins) : Int := if inB x.op 1 15 then 1 else 0
def argP (t : List ByteArray) (x : Ins) (at_ fin : Nat) : Bool :=
  if texted x.op then decide (x.arg < t.length) && (decide (x.op ≠ 15) || (readP (t.getD x.arg.toNat ⟨#[]⟩)).isSome) && (!named x.op || letters (t.getD x.arg.toNat ⟨#[]⟩))
  else if x.op = 16 then inB x.arg 1 4
  else if x.op = 21 ∨ x.op = 22 then decide ((at_ : Int) < x.arg) && decide (x.arg ≤ fin)
  else decide (x.arg = 0)
def updH (H : Nat → Int) (j : Nat) (n : Int) : Nat → Int := fun i => if i = j then n else H i
def comeP (H : Nat → Int) (j : Nat) (n : Int) : Option (Nat → Int) := if 0 ≤ H j ∧ H j ≠ n then none else some (updH H j n)
def stepP (x : Ins) (at_ : Nat) (H : Nat → Int) : Option (Nat → Int) :=
  if H at_ < 0 then some H
  else if H at_ < takesP x ∨ 20 < H at_ - takesP x + putsP x then none
  else match (if x.op ≠ 23 ∧ x.op ≠ 22 then comeP H (at_ + 1) (H at_ - takesP x + putsP x) else some H) with
    | none => none
    | some H1 => if x.op = 21 ∨ x.op = 22 then comeP H1 x.arg.toNat (H at_ - takesP x + putsP x) else some H1
def partL (t : List ByteArray) (l : List Ins) (fin : Nat) : Nat → Nat → (Nat → Int) → Bool
  | 0, _, H => decide (H fin ≤ 0)
  | g + 1, at_, H => if insOk (l.getD at_ ⟨0, 0⟩) && argP t (l.getD at_ ⟨0, 0⟩) at_ fin then match stepP (l.getD at_ ⟨0, 0⟩) at_ H with
      | none => false
      | some H1 => partL t l fin g (at_ + 1) H1
    else false
def partP (t : List ByteArray) (l : List Ins) (a b : Nat) : Bool := partL t l b (b - a) a (fun j => if j = a then 0 else -1)
def codeOk (c : Cod) : Bool :=
  c.texts.all (fun s => decide (s.size ≤ 30)) && decide (c.texts.length ≤ 60) && decide (c.list.length ≤ 250) && decide (c.bgn = 0) && inB c.line 0 c.list.length && inB c.fin c.line c.list.length &&
  partP c.texts c.list 0 c.line.toNat && partP c.texts c.list c.line.toNat c.fin.toNat && partP c.texts c.list c.fin.toNat c.list.length
theorem partL_ins {t : List ByteArray} {l : List Ins} {fin : Nat} : ∀ (g at_ : Nat) (H : Nat → Int), partL t l fin g at_ H = true → ∀ j, at_ ≤ j → j < at_ + g → insOk (l.getD j ⟨0, 0⟩) = true
  | 0, at_, H, e, j, h1, h2 => by omega
  | g + 1, at_, H, e, j, h1, h2 => by
    unfold partL at e
    split at e
    · rename_i hc
      simp only [Bool.and_eq_true] at hc
      split at e
      · cases e
      · rename_i H1 hs
        by_cases hj : j = at_
        · subst hj; exact hc.1
        · exact partL_ins g (at_ + 1) H1 e j (by omega) (by omega)
    · cases e
theorem codeOk_ins {c : Cod} (h : codeOk c = true) : ∀ j, j < c.list.length → insOk (c.list.getD j ⟨0, 0⟩) = true := by
  simp only [codeOk, Bool.and_eq_true, inB, decide_eq_true_eq] at h
  obtain ⟨⟨⟨⟨⟨_, h1⟩, h2⟩, p1⟩, p2⟩, p3⟩ := h
  intro j hj
  by_cases a : j < c.line.toNat
  · exact partL_ins _ _ _ p1 j (by omega) (by omega)
  · by_cases b : j < c.fin.toNat
    · exact partL_ins _ _ _ p2 j (by omega) (by omega)
    · exact partL_ins _ _ _ p3 j (by omega) (by omega)
theorem takesP_range {x : Ins} (h : insOk x = true) : 0 ≤ takesP x ∧ takesP x ≤ 255 := by
  simp only [insOk, inB, Bool.and_eq_true, decide_eq_true_eq] at h
  unfold takesP
  split
  · omega
  · split
    · omega
    · split <;> omega
theorem putsP_range (x : Ins) : 0 ≤ putsP x ∧ putsP x ≤ 1 := by unfold putsP; split <;> omega
/-- Heights are what they may be. -/
def HOk (H : Nat → Int) : Prop := ∀ j, -1 ≤ H j ∧ H j ≤ 20
theorem HOk.start (a : Nat) : HOk (fun j => if j = a then 0 else -1) := fun j => by dsimp only; split <;> omega
theorem HOk.upd {H : Nat → Int} (o : HOk H) {j : Nat} {n : Int} (h1 : 0 ≤ n) (h2 : n ≤ 20) : HOk (updH H j n) := fun i => by
  unfold updH
  split
  · omega
  · exact o i
/-- A reading of code. -/
structure RdC (h : AH) (vA vB : Value) (c : Cod) : Prop where
  texts : RdV h vA 1 encTx c.texts
  list : RdV h vB 2 encN c.list
theorem RdC.pre {h h' : AH} {vA vB : Value} {c : Cod} (r : RdC h vA vB c) (p : Pre h h') : RdC h' vA vB c := ⟨r.texts.pre p, r.list.pre p⟩
end Go.Sim
namespace Go.Proofs.Ytcggnolnakgkeaa
open Go Go.Sim Go.Proofs
set_option linter.unusedSimpArgs false
set_option linter.unusedVariables false
set_option maxRecDepth 100000
set_option maxHeartbeats 1000000
theorem nameI (n : Int) {G : Prop} (k : ∀ N, N = n → G) : G := k n rfl
/-- The cursor of a draw: the slice of its bytes, its place, its number. -/
def curO (p : Nat) (S : Value) (i : Nat) (x : Int) : AOb := .cells [S, .int .i64 (i : Nat), .int .i64 x] .solo p
/-- Bytes that are drawn from. -/
structure Bts (p : Nat) (h : AH) (S : Value) (l : List Nat) : Prop where
  sl : ∃ A c, S = .slice A l.length c ∧ ∀ i (hi : i < l.length), ∃ id off, A = some ⟨id, off, none⟩ ∧ id < h.n ∧ id ≠ p ∧ rd h id (off + i * 1) 1 = some [.int .u8 (l[i] : Nat)]
  lt : ∀ n ∈ l, n < 256
  len : l.length ≤ 1048576
/-- A cursor that stands somewhere. -/
def Cur (p : Nat) (S : Value) (l : List Nat) (h : AH) : Prop := ∃ i x, h.ob p = curO p S i x ∧ i ≤ l.length
/-- All that a draw needs. -/
structure Dw (p : Nat) (S : Value) (l : List Nat) (h : AH) : Prop where
  bts : Bts p h S l
  cur : Cur p S l h
  lt : p < h.n
/-- What a draw leaves behind: its cursor moved; all else as it was. -/
structure Dn (p : Nat) (S : Value) (l : List Nat) (h h' : AH) : Prop where
  n : h.n ≤ h'.n
  ob : ∀ j, j < h.n → j ≠ p → h'.ob j = h.ob j
  cur : Cur p S l h'
theorem Dw.refl {p : Nat} {S : Value} {l : List Nat} {h : AH} (d : Dw p S l h) : Dn p S l h h := ⟨Nat.le_refl _, fun _ _ _ => rfl, d.cur⟩
theorem Dn.trans {p : Nat} {S : Value} {l : List Nat} {a b c : AH} (x : Dn p S l a b) (y : Dn p S l b c) : Dn p S l a c := ⟨Nat.le_trans x.n y.n, fun j h1 h2 => (y.ob j (Nat.lt_of_lt_of_le h1 x.n) h2).trans (x.ob j h1 h2), y.cur⟩
theorem Cur.pre {p : Nat} {S : Value} {l : List Nat} {h h' : AH} (d : Cur p S l h) (e : h'.ob p = h.ob p) : Cur p S l h' := by
  obtain ⟨i, x, e', hi⟩ := d
  exact ⟨i, x, e.trans e', hi⟩
theorem Dn.alloc {p : Nat} {S : Value} {l : List Nat} {h h' : AH} (d : Dn p S l h h') (hp : p < h.n) (o : AOb) : Dn p S l h (h'.alloc o) :=
  ⟨Nat.le_trans d.n (le_alloc o), fun j h1 h2 => (alloc_lt o (Nat.lt_of_lt_of_le h1 d.n)).trans (d.ob j h1 h2), d.cur.pre (alloc_lt o (Nat.lt_of_lt_of_le hp d.n))⟩
theorem Dn.set {p : Nat} {S : Value} {l : List Nat} {h h' : AH} (d : Dn p S l h h') (hp : p < h.n) {j : Nat} (hj : h.n ≤ j) (o : AOb) : Dn p S l h (h'.set j o) :=
  ⟨d.n, fun i h1 h2 => (set_ne o (by omega)).trans (d.ob i h1 h2), d.cur.pre (set_ne o (by omega))⟩
theorem Dn.pre {p : Nat} {S : Value} {l : List Nat} {h h' h'' : AH} (d : Dn p S l h h') (hp : p < h.n) (q : Pre h' h'') : Dn p S l h h'' :=
  ⟨Nat.le_trans d.n q.n, fun j h1 h2 => (q.ob j (Nat.lt_of_lt_of_le h1 d.n)).trans (d.ob j h1 h2), d.cur.pre (q.ob p (Nat.lt_of_lt_of_le hp d.n))⟩
theorem Dw.dn {p : Nat} {S : Value} {l : List Nat} {h h' : AH} (d : Dw p S l h) (w : Dn p S l h h') : Dw p S l h' := by
  obtain ⟨A, c, e, r⟩ := d.bts.sl
  refine ⟨⟨⟨A, c, e, fun i hi => ?_⟩, d.bts.lt, d.bts.len⟩, w.cur, Nat.lt_of_lt_of_le d.lt w.n⟩
  obtain ⟨id, off, e1, h1, h2, h3⟩ := r i hi
  exact ⟨id, off, e1, Nat.lt_of_lt_of_le h1 w.n, h2, by rw [← h3, rd_eq, rd_eq, w.ob id h1 h2]⟩
theorem Dw.toDn {p : Nat} {S : Value} {l : List Nat} {h h' : AH} (d : Dw p S l h) (q : Pre h h') : Dn p S l h h' := d.refl.pre d.lt q
theorem Dw.pre {p : Nat} {S : Value} {l : List Nat} {h h' : AH} (d : Dw p S l h) (q : Pre h h') : Dw p S l h' := d.dn (d.toDn q)
def m255 (a : Int) : Nat := (BitVec.ofInt IntKind.i64.bits a &&& BitVec.ofInt IntKind.i64.bits 255).toNat
theorem m255_lt (a : Int) : m255 a < 256 := by
  unfold m255
  rw [BitVec.toNat_and]
  have h2 : (BitVec.ofInt IntKind.i64.bits 255).toNat = 255 := by decide
  rw [h2]
  exact Nat.lt_of_le_of_lt Nat.and_le_right (by omega)
theorem m255_eq (a : Int) : IntKind.i64.wrap (BitVec.ofInt IntKind.i64.bits a &&& BitVec.ofInt IntKind.i64.bits 255).toNat = (m255 a : Nat) := by
  have := m255_lt a
  rw [w64 (by unfold m255 at this; omega) (by unfold m255 at this; omega)]
  rfl
theorem CC.num {f : FuncId} {args : List Value} {h : AH} {p : Nat} {S : Value} {l : List Nat} {Q : Nat → Prop} {K : Value → AH → Prop} (hc : CC Try.prog f args h fun v h' => (∃ y : Nat, v = .int .i64 (y : Nat) ∧ Q y) ∧ Dn p S l h h')
    (hk : ∀ (y : Nat) h', Q y → Dn p S l h h' → K (.int .i64 (y : Nat)) h') : CC Try.prog f args h K := CC.mono hc (fun v h' ⟨⟨y, e, q⟩, d⟩ => by subst e; exact hk y h' q d)
theorem CC.txt {f : FuncId} {args : List Value} {h : AH} {p : Nat} {S : Value} {l : List Nat} {Q : ByteArray → Prop} {K : Value → AH → Prop} (hc : CC Try.prog f args h fun v h' => (∃ y : ByteArray, v = .string y ∧ Q y) ∧ Dn p S l h h')
    (hk : ∀ (y : ByteArray) h', Q y → Dn p S l h h' → K (.string y) h') : CC Try.prog f args h K := CC.mono hc (fun v h' ⟨⟨y, e, q⟩, d⟩ => by subst e; exact hk y h' q d)
theorem l01Byte_c (p : Nat) (S : Value) (l : List Nat) (h : AH) (d : Dw p S l h) :
    CC Try.prog 27 [.pointer (some ⟨p, 0, none⟩)] h (fun v h' => (∃ y : Nat, v = .int .i64 (y : Nat) ∧ y < 256) ∧ Dn p S l h h') := by
  have hp := d.lt
  obtain ⟨⟨A, c, rfl, hR⟩, hlt', hlen⟩ := d.bts
  obtain ⟨i, x, e, hi⟩ := d.cur
  have dd := d.refl
  have key : ∀ i' x', i' ≤ l.length → Dn p (.slice A l.length c) l h (h.set p (curO p (.slice A l.length c) i' x')) := fun i' x' hi' => ⟨Nat.le_refl _, fun j _ h2 => set_ne _ h2, ⟨i', x', set_same _ _, hi'⟩⟩
  simp only [curO] at e
  refine CC.ofN Try.func27 Try.ntmps27 Try.results27 rfl (by decide) (by kernel_rfl) ?_
  simp (maxSteps := 1000000) -implicitDefEqProofs only [push_cast, seval, e, hp, rd_of e, rd1_of e]
  with_reducible refine nameI (IntKind.i64.wrap (IntKind.i64.wrap (x * 6364136223846793005) + 1442695040888963407)) (fun X hX => ?_)
  rw [← hX]
  refine WC.draw' (by kernel_rfl) (by kernel_rfl) (.q 0 (.q 1 (.q 2 (.q 3 (.q 4 (.q 5 (.q 6 (.q 7 (.q 8 (.q 9 (.q 10 (.q 11 (.q 12 (.done)))))))))))))) (by kernel_rfl) ?_
  simp (maxSteps := 1000000) -implicitDefEqProofs only [push_cast, seval, e, hp, rd_of e, rd1_of e, m255_eq]
  with_reducible refine nameN (m255 (IntKind.i64.wrap ((BitVec.ofInt IntKind.i64.bits (X.fdiv (2 ^ min 33 IntKind.i64.bits)) ^^^ BitVec.ofInt IntKind.i64.bits (X.fdiv (2 ^ min 45 IntKind.i64.bits))).toNat : Nat))) (fun Y hY => ?_)
  have hY2 : Y < 256 := by rw [hY]; exact m255_lt _
  rw [← hY]
  clear hY
  refine WC.draw' (by kernel_rfl) (by kernel_rfl) (.q 0 (.q 1 (.q 2 (.q 3 (.q 4 (.q 5 (.q 6 (.q 7 (.q 8 (.q 9 (.done))))))))))) (by kernel_rfl) ?_
  simp (maxSteps := 1000000) -implicitDefEqProofs only [push_cast, seval, e, hp, rd_of e, rd1_of e, m255_eq]
  with_reducible refine bcase_d (fun hb => ?_) (fun hb => ?_)
  · have hi' : i < l.length := by omega
    have hx := hR i hi'
    with_reducible refine Exists.elim hx (fun id hx => ?_)
    with_reducible refine Exists.elim hx (fun off hx => ?_)
    have eA := hx.1
    have hlt := hx.2.1
    have hne := hx.2.2.1
    have hr := hx.2.2.2
    clear hx
    subst eA
    rw [Nat.mul_one] at hr
    have r0 := rd_1 hr
    have r1 : ∀ O, rd1 (h.set p O) id (off + i * 1) = some (.int .u8 (l[i] : Nat)) := fun O => by
      rw [rd1_eq, set_ne _ hne, ← rd1_eq, Nat.mul_one]; exact r0
    have hlt2 := hlt' l[i] (List.getElem_mem hi')
    refine WC.draw' (by kernel_rfl) (by kernel_rfl) (.q 0 (.q 1 (.q 2 (.q 3 (.q 4 (.q 5 (.q 6 (.q 7 (.q 8 (.q 9 (.q 10 (.q 11 (.q 12 (.q 13 (.q 14 (.done)))))))))))))))) (by kernel_rfl) ?_
    simp (maxSteps := 1000000) -implicitDefEqProofs only [push_cast, seval, e, hp, rd_of e, rd1_of e, m255_eq, hr, r0, r1, hlt, hne]
    refine And.intro (by omega) (And.intro (by omega) ?_)
    rw [wrapSucc (by omega)]
    exact ⟨⟨_, rfl, m255_lt _⟩, key (i + 1) X hi'⟩
  · simp (maxSteps := 1000000) -implicitDefEqProofs only [push_cast, seval]
    exact ⟨⟨Y, rfl, hY2⟩, key i X hi⟩
theorem l01Below_c (p : Nat) (S : Value) (l : List Nat) (n : Int) (h : AH) (d : Dw p S l h) :
    CC Try.prog 24 [.pointer (some ⟨p, 0, none⟩), .int .i64 n] h (fun v h' => (∃ y : Nat, v = .int .i64 (y : Nat) ∧ (0 < n → (y : Int) < n) ∧ (n ≤ 0 → y = 0)) ∧ Dn p S l h h') := by
  refine CC.ofN Try.func24 Try.ntmps24 Try.results24 rfl (by decide) (by kernel_rfl) ?_
  simp (maxSteps := 1000000) -implicitDefEqProofs only [push_cast, seval]
  with_reducible refine bcase_d (fun hb => ?_) (fun hb => ?_)
  · simp (maxSteps := 1000000) -implicitDefEqProofs only [push_cast, seval]
    exact ⟨⟨0, rfl, fun e => by omega, fun _ => rfl⟩, d.refl⟩
  have md : ∀ a : Nat, ∃ y : Nat, (a : Int).tmod n = (y : Nat) ∧ (y : Int) < n := fun a => by
    obtain ⟨m, rfl⟩ := Int.eq_ofNat_of_zero_le (show 0 ≤ n by omega)
    refine ⟨a % m, ?_, ?_⟩
    · rw [Int.tmod_eq_emod_of_nonneg (by omega)]; rfl
    · have := Nat.mod_lt a (show 0 < m by omega); omega
  have hn0 : n ≠ 0 := by omega
  simp (maxSteps := 1000000) -implicitDefEqProofs only [push_cast, seval]
  with_reducible refine bcase_d (fun hb2 => ?_) (fun hb2 => ?_)
  · simp (maxSteps := 1000000) -implicitDefEqProofs only [push_cast, seval]
    with_reducible refine CC.num (l01Byte_c p S l _ d) (fun y h1 hy d1 => ?_)
    simp (maxSteps := 1000000) -implicitDefEqProofs only [push_cast, seval]
    refine And.intro hn0 ?_
    obtain ⟨z, ez, hz⟩ := md y
    rw [ez]
    exact ⟨⟨z, rfl, fun _ => hz, fun e => by omega⟩, d1⟩
  · simp (maxSteps := 1000000) -implicitDefEqProofs only [push_cast, seval]
    with_reducible refine CC.num (l01Byte_c p S l _ d) (fun y1 h1 q1 d1 => ?_)
    simp (maxSteps := 1000000) -implicitDefEqProofs only [push_cast, seval]
    with_reducible refine CC.num (l01Byte_c p S l _ (d.dn d1)) (fun y2 h2 q2 d2 => ?_)
    simp (maxSteps := 1000000) -implicitDefEqProofs only [push_cast, seval]
    with_reducible refine CC.num (l01Byte_c p S l _ ((d.dn d1).dn d2)) (fun y3 h3 q3 d3 => ?_)
    simp (maxSteps := 1000000) -implicitDefEqProofs only [push_cast, seval]
    with_reducible refine CC.num (l01Byte_c p S l _ (((d.dn d1).dn d2).dn d3)) (fun y4 h4 q4 d4 => ?_)
    with_reducible refine nameN (y1 * 16777216 + y2 * 65536 + y3 * 256 + y4) (fun Z hZ => ?_)
    have w : IntKind.i64.wrap (IntKind.i64.wrap (IntKind.i64.wrap (IntKind.i64.wrap ((y1 : Int) * 16777216) + IntKind.i64.wrap ((y2 : Int) * 65536)) + IntKind.i64.wrap ((y3 : Int) * 256)) + y4) = (Z : Int) := by
      rw [hZ, w64 (n := (y1 : Int) * 16777216) (by omega) (by omega), w64 (n := (y2 : Int) * 65536) (by omega) (by omega), w64 (n := (y3 : Int) * 256) (by omega) (by omega), w64 (n := (y1 : Int) * 16777216 + (y2 : Int) * 65536) (by omega) (by omega), w64 (n := (y1 : Int) * 16777216 + (y2 : Int) * 65536 + (y3 : Int) * 256) (by omega) (by omega), w64 (by omega) (by omega)]
      omega
    obtain ⟨z, ez, hz⟩ := md Z
    simp (maxSteps := 1000000) -implicitDefEqProofs only [push_cast, seval, w, ez]
    exact And.intro hn0 ⟨⟨z, rfl, fun _ => hz, fun e => by omega⟩, ((d1.trans d2).trans d3).trans d4⟩
theorem CC.bol {f : FuncId} {args : List Value} {h : AH} {p : Nat} {S : Value} {l : List Nat} {K : Value → AH → Prop} (hc : CC Try.prog f args h fun v h' => (∃ y : Bool, v = .bool y) ∧ Dn p S l h h')
    (hk : ∀ (y : Bool) h', Dn p S l h h' → K (.bool y) h') : CC Try.prog f args h K := CC.mono hc (fun v h' ⟨⟨y, e⟩, d⟩ => by subst e; exact hk y h' d)
def strs (Q : ByteArray → Prop) : List Value → Prop
  | [] => True
  | .string y :: r => Q y ∧ strs Q r
  | _ => False
theorem strs_at {Q : ByteArray → Prop} : ∀ {cs : List Value} {i : Nat}, strs Q cs → i < cs.length → ∃ y, cs[i]? = some (.string y) ∧ Q y
  | .string y :: r, 0, h, _ => ⟨y, rfl, h.1⟩
  | .string y :: r, i + 1, h, hi => strs_at (cs := r) h.2 (by simpa using hi)
theorem l01Pick_c (p : Nat) (S : Value) (l : List Nat) (id n : Nat) (Q : ByteArray → Prop) (cs : List Value) (h : AH) (d : Dw p S l h) (e : h.ob id = .cells cs .solo id) (hc : strs Q cs) (hn : cs.length = n) (h0 : 0 < n) (hlt : id < h.n) :
    CC Try.prog 28 [.pointer (some ⟨p, 0, none⟩), .slice (some ⟨id, 0, none⟩) n 1] h (fun v h' => (∃ y : ByteArray, v = .string y ∧ Q y) ∧ Dn p S l h h') := by
  subst hn
  have hne : id ≠ p := fun e' => by
    subst e'
    obtain ⟨i, x, e2, _⟩ := d.cur
    rw [e] at e2
    obtain ⟨A, c, rfl, _⟩ := d.bts.sl
    simp only [curO, AOb.cells.injEq] at e2
    rw [e2.1] at hc
    exact hc
  refine CC.ofN Try.func28 Try.ntmps28 Try.results28 rfl (by decide) (by kernel_rfl) ?_
  simp (maxSteps := 1000000) -implicitDefEqProofs only [push_cast, seval]
  with_reducible refine CC.num (l01Below_c p S l _ _ d) (fun y h1 q d1 => ?_)
  have hy : (y : Int) < cs.length := q.1 (by omega)
  have hy' : y < cs.length := by omega
  have e1 : h1.ob id = _ := (d1.ob id hlt hne).trans e
  have l1 : id < h1.n := Nat.lt_of_lt_of_le hlt d1.n
  have hz := strs_at hc hy'
  with_reducible refine Exists.elim hz (fun z hz => ?_)
  have g1 : rd1 h1 id (y * 1) = some (.string z) := by rw [rd1_of e1, rd1O_cells, Nat.mul_one]; exact hz.1
  have hQ := hz.2
  simp (maxSteps := 1000000) -implicitDefEqProofs only [push_cast, seval, l1, g1]
  refine And.intro (by omega) (And.intro (by omega) ?_)
  exact ⟨⟨z, rfl, hQ⟩, d1⟩
def byV (n : Nat) : List Value := [.int .u8 (n : Nat)]
theorem byte_wf {n : Int} (h : (Lit.int .u8 n).wf = true) : 0 ≤ n ∧ n < 256 := by
  have e1 : IntKind.u8.min = 0 := by decide
  have e2 : IntKind.u8.max = 255 := by decide
  simp [Lit.wf, e1, e2] at h
  omega
theorem big_c (A : Option Addr) (n c : Nat) (h : AH) : CD Try.prog 5 [.slice A n c] h (.bool (decide ((1048576 : Int) < n))) h := by
  refine CD.quiet ?_ (low_bool _ _)
  refine CC.ofN Try.func5 Try.ntmps5 Try.results5 rfl (by decide) (by kernel_rfl) ?_
  simp (maxSteps := 1000000) -implicitDefEqProofs only [push_cast, seval]
  repeat' (first | with_reducible (first | exact Keep.refl _ _ | assumption | exact byte_lt _ _ | apply Keep.alloc | (refine Keep.set ?_ ?_; rotate_left; · omega) | apply Pre.alloc | apply Pre.set | exact Pre.refl _ | exact le_alloc _ | (refine Pre.keep ?_; assumption) | (refine Pre.n ?_; assumption)) | ((with_reducible (first | refine bcase_d (fun hb => ?_) (fun hb => ?_) | refine bcase_mk (fun hb => ?_) (fun hb => ?_))) <;> try simp (maxSteps := 1000000) -implicitDefEqProofs only [push_cast, seval]) | with_reducible refine And.intro ?_ ?_ | omega | (simp only [alloc_n, set_n, kill_n]; omega) | (exfalso; omega))
theorem l01New_c (A : Option Addr) (c : Nat) (l : List Nat) (h : AH) (hR : RdE h A 1 byV l) (big : Big h) (hl : ∀ n ∈ l, n < 256) (hn : l.length ≤ 1048576) :
    CC Try.prog 17 [.slice A l.length c] h (fun v h' => v = .pointer (some ⟨h.n, 0, none⟩) ∧ Dw h.n (.slice A l.length c) l h' ∧ Pre h h') := by
  refine CC.ofN Try.func17 Try.ntmps17 Try.results17 rfl (by decide) (by kernel_rfl) ?_
  simp (maxSteps := 1000000) -implicitDefEqProofs only [push_cast, seval]
  refine WC.loopA (by kernel_rfl) [3, 4] [8, 9, 10, 11, 12, 13, 14, 15, 16, 17, 18, 19, 20, 21, 22, 23, 24, 25, 26, 27] (fun a : Nat × Int => [.int .i64 a.2, .int .i64 (a.1 : Nat)]) (fun a h' => a.1 ≤ l.length ∧ h' = h) (fun a => l.length - a.1) (0, IntKind.i64.wrap (38001 + (l.length : Int))) (by kernel_rfl) ⟨Nat.zero_le _, rfl⟩ ?_
  intro a g h1 hJ
  have hi := hJ.1
  have hh := hJ.2
  clear hJ
  subst hh
  have fin : ∀ x : Int, Dw h1.n (.slice A l.length c) l (h1.alloc (.cells [.slice A l.length c, .int .i64 0, .int .i64 x] .solo h1.n)) := fun x =>
    ⟨⟨⟨A, c, rfl, fun i hi => by
      obtain ⟨id, off, e, hr⟩ := hR i hi
      have hlt := big.lt hr
      exact ⟨id, off, e, Nat.lt_of_lt_of_le hlt (le_alloc _), by omega, by rw [rd_alloc_lt _ hlt]; exact hr⟩⟩, hl, hn⟩, ⟨0, x, alloc_same _, Nat.zero_le _⟩, lt_alloc _⟩
  simp (maxSteps := 1000000) -implicitDefEqProofs only [push_cast, seval]
  with_reducible refine bcase_d (fun hb => ?_) (fun hb => ?_)
  · simp (maxSteps := 1000000) -implicitDefEqProofs only [push_cast, seval]
    with_reducible refine bcase_d (fun hb2 => ?_) (fun hb2 => ?_)
    · have hi' : a.1 < l.length := by omega
      with_reducible refine hR.use big (Pre.refl _) hi' (fun id off eA hlt hr => ?_)
      subst eA
      simp only [byV] at hr
      have r0 := rd_1 hr
      simp (maxSteps := 1000000) -implicitDefEqProofs only [push_cast, seval, hr, r0, hlt]
      refine And.intro (by omega) (And.intro (by omega) ?_)
      rw [wrapSucc (by omega)]
      refine ⟨(a.1 + 1, IntKind.i64.wrap (BitVec.ofInt IntKind.i64.bits (IntKind.i64.wrap (IntKind.i64.wrap (IntKind.i64.wrap (a.2 * 131) + IntKind.i64.wrap (l[a.1] : Nat)) + 7)) &&& BitVec.ofInt IntKind.i64.bits 1073741823).toNat), by kernel_rfl, by show a.1 + 1 ≤ l.length; omega, by show l.length - (a.1 + 1) < l.length - a.1; omega⟩
    · simp (maxSteps := 1000000) -implicitDefEqProofs only [push_cast, seval]
      exact ⟨fin _, (Pre.refl _).alloc _⟩
  · simp (maxSteps := 1000000) -implicitDefEqProofs only [push_cast, seval]
    exact ⟨fin _, (Pre.refl _).alloc _⟩
def ints (Q : Int → Prop) : List Value → Prop
  | [] => True
  | .int .i64 y :: r => Q y ∧ ints Q r
  | _ => False
theorem ints_at {Q : Int → Prop} : ∀ {cs : List Value} {i : Nat}, ints Q cs → i < cs.length → ∃ y, cs[i]? = some (.int .i64 y) ∧ Q y
  | .int .i64 y :: r, 0, h, _ => ⟨y, rfl, h.1⟩
  | .int .i64 y :: r, i + 1, h, hi => ints_at (cs := r) h.2 (by simpa using hi)
theorem CC.intp {f : FuncId} {args : List Value} {h : AH} {p : Nat} {S : Value} {l : List Nat} {Q : Int → Prop} {K : Value → AH → Prop} (hc : CC Try.prog f args h fun v h' => (∃ y : Int, v = .int .i64 y ∧ Q y) ∧ Dn p S l h h')
    (hk : ∀ (y : Int) h', Q y → Dn p S l h h' → K (.int .i64 y) h') : CC Try.prog f args h K := CC.mono hc (fun v h' ⟨⟨y, e, q⟩, d⟩ => by subst e; exact hk y h' q d)
theorem l01PickInt_c (p : Nat) (S : Value) (l : List Nat) (id n : Nat) (Q : Int → Prop) (cs : List Value) (h : AH) (d : Dw p S l h) (e : h.ob id = .cells cs .solo id) (hc : ints Q cs) (hn : cs.length = n) (h0 : 0 < n) (hlt : id < h.n) :
    CC Try.prog 18 [.pointer (some ⟨p, 0, none⟩), .slice (some ⟨id, 0, none⟩) n 1] h (fun v h' => (∃ y : Int, v = .int .i64 y ∧ Q y) ∧ Dn p S l h h') := by
  subst hn
  have hne : id ≠ p := fun e' => by
    subst e'
    obtain ⟨i, x, e2, _⟩ := d.cur
    rw [e] at e2
    obtain ⟨A, c, rfl, _⟩ := d.bts.sl
    simp only [curO, AOb.cells.injEq] at e2
    rw [e2.1] at hc
    exact hc
  refine CC.ofN Try.func18 Try.ntmps18 Try.results18 rfl (by decide) (by kernel_rfl) ?_
  simp (maxSteps := 1000000) -implicitDefEqProofs only [push_cast, seval]
  with_reducible refine CC.num (l01Below_c p S l _ _ d) (fun y h1 q d1 => ?_)
  have hy : (y : Int) < cs.length := q.1 (by omega)
  have hy' : y < cs.length := by omega
  have e1 : h1.ob id = _ := (d1.ob id hlt hne).trans e
  have l1 : id < h1.n := Nat.lt_of_lt_of_le hlt d1.n
  have hz := ints_at hc hy'
  with_reducible refine Exists.elim hz (fun z hz => ?_)
  have g1 : rd1 h1 id (y * 1) = some (.int .i64 z) := by rw [rd1_of e1, rd1O_cells, Nat.mul_one]; exact hz.1
  have hQ := hz.2
  simp (maxSteps := 1000000) -implicitDefEqProofs only [push_cast, seval, l1, g1]
  refine And.intro (by omega) (And.intro (by omega) ?_)
  exact ⟨⟨z, rfl, hQ⟩, d1⟩
end Go.Proofs.Ytcggnolnakgkeaa
namespace Go.Proofs.Ytcggnolnakgkeaa
open Go Go.Sim Go.Proofs
set_option linter.unusedSimpArgs false
set_option linter.unusedVariables false
set_option maxRecDepth 100000
set_option maxHeartbeats 1000000
def txtW (l : List ByteArray) (i : Nat) : Nat := ((l.take i).map fun x => x.size).sum
theorem txtW_zero (l : List ByteArray) : txtW l 0 = 0 := by simp [txtW]
theorem txtW_succ {l : List ByteArray} {i : Nat} (h : i < l.length) : txtW l (i + 1) = txtW l i + l[i].size := by
  simp only [txtW, List.take_add_one, List.getElem?_eq_getElem h, Option.toList_some, List.map_append, List.map_cons, List.map_nil, List.sum_append, List.sum_cons, List.sum_nil]; omega
theorem txtW_mono {l : List ByteArray} : ∀ {i j : Nat}, i ≤ j → j ≤ l.length → txtW l i ≤ txtW l j
  | i, 0, h, _ => by have : i = 0 := by omega
                     subst this; exact Nat.le_refl _
  | i, j + 1, h, hj => by
    by_cases e : i = j + 1
    · subst e; exact Nat.le_refl _
    · have := txtW_mono (l := l) (i := i) (j := j) (by omega) (by omega)
      rw [txtW_succ (by omega)]; omega
theorem szStringS_c (vs : List ByteArray) (A : Option Addr) (ca : Nat) (l : Int) (h : AH) (hR : RdE h A 1 encTx vs) (hz : ∀ x ∈ vs, x.size ≤ maxLen) (hn : vs.length ≤ maxLen) (hl : 0 ≤ l ∧ l ≤ 1048576) :
    CD Try.prog 9 [.slice A vs.length ca, .int .i64 l] h (.int .i64 (if l - vs.length - txtW vs vs.length < 0 then -1 else l - vs.length - txtW vs vs.length)) h := by
  refine CD.withBig (fun big => ?_)
  refine CD.quiet ?_ (low_int _ _ _)
  have hm := maxLen_eq
  have w1 : IntKind.i64.wrap (l - (vs.length : Int)) = l - (vs.length : Int) := by rw [w64 (by omega) (by omega)]
  refine CC.ofN Try.func9 Try.ntmps9 Try.results9 rfl (by decide) (by kernel_rfl) ?_
  simp (maxSteps := 1000000) -implicitDefEqProofs only [push_cast, seval, w1]
  with_reducible refine bcase_d (fun hb => ?_) (fun hb => ?_)
  · simp (maxSteps := 1000000) -implicitDefEqProofs only [push_cast, seval]
    repeat' (first | with_reducible (first | exact Keep.refl _ _ | assumption | exact byte_lt _ _ | apply Keep.alloc | (refine Keep.set ?_ ?_; rotate_left; · omega) | apply Pre.alloc | apply Pre.set | exact Pre.refl _ | exact le_alloc _ | (refine Pre.keep ?_; assumption) | (refine Pre.n ?_; assumption)) | ((with_reducible (first | refine bcase_d (fun hb => ?_) (fun hb => ?_) | refine bcase_mk (fun hb => ?_) (fun hb => ?_))) <;> try simp (maxSteps := 1000000) -implicitDefEqProofs only [push_cast, seval]) | with_reducible refine And.intro ?_ ?_ | omega | (simp only [alloc_n, set_n, kill_n]; omega) | (exfalso; omega))
    all_goals grind
  simp (maxSteps := 1000000) -implicitDefEqProofs only [push_cast, seval]
  refine WC.loopA (by kernel_rfl) [1, 5] [4, 12, 13, 14, 15, 16, 17, 18, 19, 20, 21, 22, 23, 24, 25, 26] (fun a : Int × Nat => [.int .i64 a.1, .int .i64 (a.2 : Nat)]) (fun a h' => (a.1 = l - vs.length - txtW vs a.2 ∧ 0 ≤ a.1 ∧ a.2 ≤ vs.length) ∧ Pre h h') (fun a => vs.length - a.2) (l - vs.length, 0) (by kernel_rfl) ⟨⟨by rw [txtW_zero]; simp, by omega, Nat.zero_le _⟩, Pre.refl _⟩ ?_
  intro a g h1 hJ
  have ha := hJ.1.1
  have h0 := hJ.1.2.1
  have hi := hJ.1.2.2
  have hp := hJ.2
  clear hJ
  simp (maxSteps := 1000000) -implicitDefEqProofs only [push_cast, seval]
  with_reducible refine bcase_d (fun hb => ?_) (fun hb => ?_)
  · have hi' : a.2 < vs.length := by omega
    with_reducible refine hR.use big hp hi' (fun id off eA hlt hr => ?_)
    subst eA
    simp only [encTx, Nat.mul_one] at hr
    have r0 := rd_1 hr
    have hzi := hz _ (List.getElem_mem hi')
    have hs := txtW_succ hi'
    have hmo := txtW_mono (l := vs) (i := a.2 + 1) (j := vs.length) (by omega) (Nat.le_refl _)
    have w2 : IntKind.i64.wrap (a.1 - (vs[a.2].size : Int)) = a.1 - (vs[a.2].size : Int) := by rw [w64 (by omega) (by omega)]
    simp (maxSteps := 1000000) -implicitDefEqProofs only [push_cast, seval, hr, r0, hlt, w2, Nat.mul_one]
    repeat (with_reducible refine And.intro ?_ ?_; · (first | omega | decide))
    with_reducible refine bcase_d (fun hb2 => ?_) (fun hb2 => ?_)
    · simp (maxSteps := 1000000) -implicitDefEqProofs only [push_cast, seval]
      exact ⟨by rw [if_pos (by omega)], hp.keep⟩
    · simp (maxSteps := 1000000) -implicitDefEqProofs only [push_cast, seval]
      rw [wrapSucc (by omega)]
      exact ⟨(a.1 - vs[a.2].size, a.2 + 1), by kernel_rfl, ⟨⟨by show a.1 - vs[a.2].size = l - vs.length - txtW vs (a.2 + 1); omega, by show 0 ≤ a.1 - (vs[a.2].size : Int); omega, by show a.2 + 1 ≤ vs.length; omega⟩, hp⟩, by show vs.length - (a.2 + 1) < vs.length - a.2; omega⟩
  · have hn : a.2 = vs.length := by omega
    simp (maxSteps := 1000000) -implicitDefEqProofs only [push_cast, seval]
    repeat' (first | with_reducible (first | exact Keep.refl _ _ | assumption | exact byte_lt _ _ | apply Keep.alloc | (refine Keep.set ?_ ?_; rotate_left; · omega) | apply Pre.alloc | apply Pre.set | exact Pre.refl _ | exact le_alloc _ | (refine Pre.keep ?_; assumption) | (refine Pre.n ?_; assumption)) | ((with_reducible (first | refine bcase_d (fun hb => ?_) (fun hb => ?_) | refine bcase_mk (fun hb => ?_) (fun hb => ?_))) <;> try simp (maxSteps := 1000000) -implicitDefEqProofs only [push_cast, seval]) | with_reducible refine And.intro ?_ ?_ | omega | (simp only [alloc_n, set_n, kill_n]; omega) | (exfalso; omega))
    grind
/-- A new slice's cells, of which the first are filled. -/
def Filled {α : Type} (k : Nat) (enc : α → List Value) (l : List α) (cs : List Value) (i : Nat) : Prop := cs.length = l.length * k ∧ ∀ j (hj : j < l.length), j < i → (cs.drop (j * k)).take k = enc l[j]
theorem Filled.put {α : Type} {k : Nat} {enc : α → List Value} {l : List α} {cs : List Value} {i : Nat} (w : Filled k enc l cs i) (hi : i < l.length) (hk : (enc l[i]).length = k) : Filled k enc l (putL cs (i * k) (enc l[i])) (i + 1) := by
  refine ⟨by rw [putL_length, w.1], fun j hj hji => ?_⟩
  have hb : i * k + k ≤ cs.length := by rw [w.1, ← Nat.succ_mul]; exact Nat.mul_le_mul_right k hi
  by_cases e : j = i
  · subst e
    apply List.ext_getElem?
    intro m
    rw [List.getElem?_take]
    by_cases hm : m < k
    · rw [if_pos hm, List.getElem?_drop, putL_in _ _ _ m (by omega) (by omega), List.getElem?_eq_getElem]
    · rw [if_neg hm, List.getElem?_eq_none (by omega)]
  · have hji' : j < i := by omega
    rw [← w.2 j hj hji']
    have hq : j * k + k ≤ i * k := by rw [← Nat.succ_mul]; exact Nat.mul_le_mul_right k hji'
    apply List.ext_getElem?
    intro m
    rw [List.getElem?_take, List.getElem?_take]
    by_cases hm : m < k
    · rw [if_pos hm, if_pos hm, List.getElem?_drop, List.getElem?_drop, putL_out _ _ _ _ (.inl (by omega))]
    · rw [if_neg hm, if_neg hm]
theorem Filled.zero {α : Type} {k : Nat} {enc : α → List Value} {l : List α} (z : List Value) : Filled k enc l (zerosL (l.length * k) z) 0 := ⟨zerosL_length _ _, fun j _ h => absurd h (Nat.not_lt_zero j)⟩
theorem Filled.readAt {α : Type} {k : Nat} {enc : α → List Value} {l : List α} {cs : List Value} (w : Filled k enc l cs l.length) {h : AH} {i : Nat} {st : Sim.Stat} {ln : Nat} (e : h.ob i = .cells cs st ln) : RdE h (some ⟨i, 0, none⟩) k enc l := fun j hj => by
  refine ⟨i, 0, rfl, ?_⟩
  rw [rd_of e, rdO_cells, Nat.zero_add, w.2 j hj hj]
  have : j * k + k ≤ cs.length := by rw [w.1, ← Nat.succ_mul]; exact Nat.mul_le_mul_right k hj
  simp [this]
theorem Filled.read {α : Type} {k : Nat} {enc : α → List Value} {l : List α} {cs : List Value} (w : Filled k enc l cs l.length) (h : AH) : RdE (h.alloc (.cells cs .solo h.n)) (some ⟨h.n, 0, none⟩) k enc l := fun i hi => by
  refine ⟨h.n, 0, rfl, ?_⟩
  rw [rd_alloc_same, rdO_cells, Nat.zero_add, w.2 i hi hi]
  have : i * k + k ≤ cs.length := by rw [w.1, ← Nat.succ_mul]; exact Nat.mul_le_mul_right k hi
  simp [this]
theorem alloc_set {h : AH} (o o' : AOb) : (h.alloc o).set h.n o' = h.alloc o' := by
  unfold AH.set AH.alloc
  simp only
  congr 1
  funext j
  split <;> rfl
theorem toStringS_c (vs : List ByteArray) (A : Option Addr) (ca : Nat) (h : AH) (hR : RdE h A 1 encTx vs) (hn : vs.length < 274877906944) :
    CC Try.prog 11 [.slice A vs.length ca] h (fun v h' => ∃ cs, v = .slice (some ⟨h.n, 0, none⟩) vs.length 1 ∧ h' = h.alloc (.cells cs .solo h.n) ∧ Filled 1 encTx vs cs vs.length) := by
  refine CC.withBig (fun big => ?_)
  refine CC.ofN Try.func11 Try.ntmps11 Try.results11 rfl (by decide) (by kernel_rfl) ?_
  simp (maxSteps := 1000000) -implicitDefEqProofs only [push_cast, seval]
  repeat (with_reducible refine And.intro ?_ ?_; · (first | omega | decide))
  refine WC.loopA (by kernel_rfl) [4] [8, 9, 10, 11, 12, 13, 14, 15, 16, 17, 18, 19, 20] (fun a : Nat × List Value => [.int .i64 (a.1 : Nat)]) (fun a h' => h' = h.alloc (.cells a.2 .solo h.n) ∧ a.1 ≤ vs.length ∧ Filled 1 encTx vs a.2 a.1) (fun a => vs.length - a.1) (0, List.replicate (vs.length * 1) (.string ⟨#[]⟩)) (by kernel_rfl) ⟨rfl, Nat.zero_le _, by simp, fun j _ h => absurd h (Nat.not_lt_zero j)⟩ ?_
  intro a g h1 hJ
  have hh := hJ.1
  have hi := hJ.2.1
  have hf := hJ.2.2
  clear hJ
  subst hh
  have pb : Pre h (h.alloc (.cells a.2 .solo h.n)) := (Pre.refl _).alloc _
  simp (maxSteps := 1000000) -implicitDefEqProofs only [push_cast, seval]
  with_reducible refine bcase_d (fun hb => ?_) (fun hb => ?_)
  · have hi' : a.1 < vs.length := by omega
    with_reducible refine hR.use big pb hi' (fun id off eA hlt hr => ?_)
    subst eA
    simp only [encTx, Nat.mul_one] at hr
    have r0 := rd_1 hr
    have hc := hf.1
    have hf' := hf.put hi' rfl
    simp only [encTx] at hf'
    have hbd : a.1 + 1 ≤ vs.length * 1 := by omega
    simp (maxSteps := 1000000) -implicitDefEqProofs only [push_cast, seval, hr, r0, hlt, Nat.mul_one]
    repeat' (first | with_reducible (first | exact Keep.refl _ _ | assumption | exact byte_lt _ _ | apply Keep.alloc | (refine Keep.set ?_ ?_; rotate_left; · omega) | apply Pre.alloc | apply Pre.set | exact Pre.refl _ | exact le_alloc _ | (refine Pre.keep ?_; assumption) | (refine Pre.n ?_; assumption)) | ((with_reducible (first | refine bcase_d (fun hb => ?_) (fun hb => ?_) | refine bcase_mk (fun hb => ?_) (fun hb => ?_))) <;> try simp (maxSteps := 1000000) -implicitDefEqProofs only [push_cast, seval, hr, r0, hlt, Nat.mul_one, hc, hbd]) | with_reducible refine And.intro ?_ ?_ | omega | (simp only [alloc_n, set_n, kill_n]; omega) | (exfalso; omega))
    rw [wrapSucc (by omega)]
    refine ⟨(a.1 + 1, putL a.2 (a.1 * 1) [.string vs[a.1]]), by kernel_rfl, ⟨?_, ?_, hf'⟩, ?_⟩
    · simp only [putL, alloc_set, Nat.mul_one]
    · show a.1 + 1 ≤ vs.length
      omega
    · show vs.length - (a.1 + 1) < vs.length - a.1
      omega
  · have hn : a.1 = vs.length := by omega
    rw [hn] at hf
    simp (maxSteps := 1000000) -implicitDefEqProofs only [push_cast, seval]
    repeat' (first | with_reducible (first | exact Keep.refl _ _ | assumption | exact byte_lt _ _ | apply Keep.alloc | (refine Keep.set ?_ ?_; rotate_left; · omega) | apply Pre.alloc | apply Pre.set | exact Pre.refl _ | exact le_alloc _ | (refine Pre.keep ?_; assumption) | (refine Pre.n ?_; assumption)) | ((with_reducible (first | refine bcase_d (fun hb => ?_) (fun hb => ?_) | refine bcase_mk (fun hb => ?_) (fun hb => ?_))) <;> try simp (maxSteps := 1000000) -implicitDefEqProofs only [push_cast, seval]) | with_reducible refine And.intro ?_ ?_ | omega | (simp only [alloc_n, set_n, kill_n]; omega) | (exfalso; omega))
    exact ⟨_, rfl, hf⟩
theorem take_next {α : Type} {l m : List α} {i : Nat} (e : l.take i = m.take i) (hi : i < l.length) (hj : i < m.length) (h : l[i] = m[i]) : l.take (i + 1) = m.take (i + 1) := by
  rw [List.take_add_one, List.take_add_one, e, List.getElem?_eq_getElem hi, List.getElem?_eq_getElem hj, h]
theorem take_full {α : Type} {l m : List α} (e : l.take l.length = m.take l.length) (h : l.length = m.length) : l = m := by
  rw [List.take_length, h, List.take_length] at e; exact e
theorem eqStringS_c (l m : List ByteArray) (A B : Option Addr) (ca cb : Nat) (h : AH) (hA : RdE h A 1 encTx l) (hB : RdE h B 1 encTx m) (hl : l.length < 274877906944) (hm : m.length < 274877906944) :
    CD Try.prog 13 [.slice A l.length ca, .slice B m.length cb] h (.bool (decide (l = m))) h := by
  refine CD.withBig (fun big => ?_)
  refine CD.quiet ?_ (low_bool _ _)
  refine CC.ofN Try.func13 Try.ntmps13 Try.results13 rfl (by decide) (by kernel_rfl) ?_
  simp (maxSteps := 1000000) -implicitDefEqProofs only [push_cast, seval]
  with_reducible refine bcase_d (fun hb => ?_) (fun hb => ?_)
  rotate_left
  · simp (maxSteps := 1000000) -implicitDefEqProofs only [push_cast, seval]
    repeat' (first | with_reducible (first | exact Keep.refl _ _ | assumption | exact byte_lt _ _ | apply Keep.alloc | (refine Keep.set ?_ ?_; rotate_left; · omega) | apply Pre.alloc | apply Pre.set | exact Pre.refl _ | exact le_alloc _ | (refine Pre.keep ?_; assumption) | (refine Pre.n ?_; assumption)) | ((with_reducible (first | refine bcase_d (fun hb => ?_) (fun hb => ?_) | refine bcase_mk (fun hb => ?_) (fun hb => ?_))) <;> try simp (maxSteps := 1000000) -implicitDefEqProofs only [push_cast, seval]) | with_reducible refine And.intro ?_ ?_ | omega | (simp only [alloc_n, set_n, kill_n]; omega) | (exfalso; omega))
    have : l ≠ m := fun e => hb (by rw [e])
    simp [this]
  have hlm : l.length = m.length := by omega
  simp (maxSteps := 1000000) -implicitDefEqProofs only [push_cast, seval]
  refine WC.loopA (by kernel_rfl) [5] [4, 11, 12, 13, 14, 15, 16, 17, 18, 19, 20, 21, 22, 23, 24, 25] (fun a : Nat => [.int .i64 (a : Nat)]) (fun a h' => a ≤ l.length ∧ l.take a = m.take a ∧ Pre h h') (fun a => l.length - a) 0 (by kernel_rfl) ⟨Nat.zero_le _, by simp, Pre.refl _⟩ ?_
  intro a g h1 hJ
  have hi := hJ.1
  have he := hJ.2.1
  have hp := hJ.2.2
  clear hJ
  simp (maxSteps := 1000000) -implicitDefEqProofs only [push_cast, seval]
  with_reducible refine bcase_d (fun hb => ?_) (fun hb => ?_)
  · have hi' : a < l.length := by omega
    have hj' : a < m.length := by omega
    with_reducible refine hA.use big hp hi' (fun id off eA hlt hr => ?_)
    with_reducible refine hB.use big hp hj' (fun id2 off2 eB hlt2 hr2 => ?_)
    subst eA
    subst eB
    simp only [encTx, Nat.mul_one] at hr hr2
    have r0 := rd_1 hr
    have r02 := rd_1 hr2
    simp (maxSteps := 1000000) -implicitDefEqProofs only [push_cast, seval, hr, r0, hlt, hr2, r02, hlt2, Nat.mul_one]
    refine WC.draw' (by kernel_rfl) (by kernel_rfl) (.q 0 (.q 1 (.q 2 (.q 3 (.q 4 (.q 5 (.q 6 (.q 7 (.q 8 (.done)))))))))) (by kernel_rfl) ?_
    simp (maxSteps := 1000000) -implicitDefEqProofs only [push_cast, seval, hr, r0, hlt, hr2, r02, hlt2, Nat.mul_one]
    repeat (with_reducible refine And.intro ?_ ?_; · (first | omega | decide))
    with_reducible refine bcase_d (fun hb2 => ?_) (fun hb2 => ?_)
    · simp (maxSteps := 1000000) -implicitDefEqProofs only [push_cast, seval]
      rw [wrapSucc (by omega)]
      exact ⟨a + 1, by kernel_rfl, ⟨by show a + 1 ≤ l.length; omega, take_next he hi' hj' hb2, hp⟩, by show l.length - (a + 1) < l.length - a; omega⟩
    · simp (maxSteps := 1000000) -implicitDefEqProofs only [push_cast, seval]
      have : l ≠ m := fun e => by subst e; exact hb2 rfl
      exact ⟨by simp [this], hp.keep⟩
  · have hn : a = l.length := by omega
    subst hn
    simp (maxSteps := 1000000) -implicitDefEqProofs only [push_cast, seval]
    repeat' (first | with_reducible (first | exact Keep.refl _ _ | assumption | exact byte_lt _ _ | apply Keep.alloc | (refine Keep.set ?_ ?_; rotate_left; · omega) | apply Pre.alloc | apply Pre.set | exact Pre.refl _ | exact le_alloc _ | (refine Pre.keep ?_; assumption) | (refine Pre.n ?_; assumption)) | ((with_reducible (first | refine bcase_d (fun hb => ?_) (fun hb => ?_) | refine bcase_mk (fun hb => ?_) (fun hb => ?_))) <;> try simp (maxSteps := 1000000) -implicitDefEqProofs only [push_cast, seval]) | with_reducible refine And.intro ?_ ?_ | omega | (simp only [alloc_n, set_n, kill_n]; omega) | (exfalso; omega))
    have := take_full he hlm
    simp [this]
theorem markText_c (k : Nat) (h0 : 0 < k) (hk : k < 4000000000000) (h : AH) : CD Try.prog 22 [.int .i64 (k : Nat)] h (.string (mt k)) h := by
  refine CD.quiet ?_ (low_string _ _)
  refine CC.ofN Try.func22 Try.ntmps22 Try.results22 rfl (by decide) (by kernel_rfl) ?_
  simp (maxSteps := 1000000) -implicitDefEqProofs only [push_cast, seval]
  with_reducible refine bcase_d (fun hb => ?_) (fun hb => ?_)
  · exfalso; omega
  simp (maxSteps := 1000000) -implicitDefEqProofs only [push_cast, seval]
  refine WC.loopA (by kernel_rfl) [0, 3] [6, 7, 8, 9, 10, 11, 12, 13, 14, 15, 16, 17] (fun a : Nat × ByteArray => [.int .i64 (a.1 : Nat), .string a.2]) (fun a h' => (dg a.1 a.1 a.2 = dg k k ⟨#[]⟩ ∧ a.2.size + a.1 ≤ k) ∧ Pre h h') (fun a => a.1) (k, ⟨#[]⟩) (by kernel_rfl) ⟨⟨rfl, by show 0 + k ≤ k; omega⟩, Pre.refl _⟩ ?_
  intro a g h1 hJ
  have hd := hJ.1.1
  have hl := hJ.1.2
  have hp := hJ.2
  clear hJ
  simp (maxSteps := 1000000) -implicitDefEqProofs only [push_cast, seval]
  with_reducible refine bcase_d (fun hb => ?_) (fun hb => ?_)
  · have e1 : (IntKind.u8.wrap (IntKind.i64.wrap (48 + (a.1 : Int).tmod 10))).toNat = 48 + a.1 % 10 := by
      rw [Int.tmod_eq_emod_of_nonneg (by omega), w64 (by omega) (by omega), w8 (by omega) (by omega)]; omega
    have e2 : IntKind.i64.wrap ((a.1 : Int).tdiv 10) = ((a.1 / 10 : Nat) : Int) := by
      rw [Int.tdiv_eq_ediv_of_nonneg (by omega), w64 (by omega) (by omega)]; omega
    simp (maxSteps := 1000000) -implicitDefEqProofs only [push_cast, seval, e1, e2]
    have z1 : (ByteArray.mk #[UInt8.ofNat (48 + a.1 % 10)]).size = 1 := rfl
    refine And.intro (by rw [z1]; omega) ⟨(a.1 / 10, ⟨#[UInt8.ofNat (48 + a.1 % 10)]⟩ ++ a.2), by kernel_rfl, ⟨⟨?_, ?_⟩, hp.alloc _⟩, ?_⟩
    · rw [← hd, dg_step (k := a.1) (by omega)]
    · show (ByteArray.mk #[UInt8.ofNat (48 + a.1 % 10)] ++ a.2).size + a.1 / 10 ≤ k
      rw [ByteArray.size_append, z1]; omega
    · show a.1 / 10 < a.1
      omega
  · have e : a.1 = 0 := by omega
    have z1 : (ByteArray.mk #[109]).size = 1 := rfl
    rw [e, dg_zero] at hd
    rw [hd] at hl
    simp (maxSteps := 1000000) -implicitDefEqProofs only [push_cast, seval]
    refine And.intro (by rw [z1, hd]; omega) ?_
    repeat' (first | with_reducible (first | exact Keep.refl _ _ | assumption | exact byte_lt _ _ | apply Keep.alloc | (refine Keep.set ?_ ?_; rotate_left; · omega) | apply Pre.alloc | apply Pre.set | exact Pre.refl _ | exact le_alloc _ | (refine Pre.keep ?_; assumption) | (refine Pre.n ?_; assumption)) | ((with_reducible (first | refine bcase_d (fun hb => ?_) (fun hb => ?_) | refine bcase_mk (fun hb => ?_) (fun hb => ?_))) <;> try simp (maxSteps := 1000000) -implicitDefEqProofs only [push_cast, seval]) | with_reducible refine And.intro ?_ ?_ | omega | (simp only [alloc_n, set_n, kill_n]; omega) | (exfalso; omega))
    rw [hd]; rfl
/-- A slice whose cells are marked. -/
def fS (k : Nat) : Value := .string (mt k)
theorem markStringS_o (id off n : Nat) (cs : List Value) (k : Nat) (h : AH) (o : Sim.Own h id off n 1 cs) (h0 : 0 < k) (hk : k + n * 1 < 4000000000000) (hn : n < 274877906944) :
    CC Try.prog 14 [.slice (some ⟨id, off, none⟩) n 1, .int .i64 (k : Nat)] h (fun v h' => v = .int .i64 ((k + n * 1 : Nat) : Int) ∧ Sim.Own h' id off n 1 (marks fS k (n * 1)) ∧ Wr h h' id) := by
  refine CC.ofN Try.func14 Try.ntmps14 Try.results14 rfl (by decide) (by kernel_rfl) ?_
  simp (maxSteps := 1000000) -implicitDefEqProofs only [push_cast, seval]
  refine WC.loopA (by kernel_rfl) [1, 5] [6, 7, 8, 9, 10, 11, 12, 13, 14, 15, 16, 17, 18] (fun a : Nat × Nat × List Value => [.int .i64 (a.2.1 : Nat), .int .i64 (a.1 : Nat)]) (fun a h' => (a.1 ≤ n ∧ a.2.1 = k + a.1 * 1 ∧ Mkd fS k a.2.2 (a.1 * 1)) ∧ Sim.Own h' id off n 1 a.2.2 ∧ Wr h h' id) (fun a => n - a.1) (0, k, cs) (by kernel_rfl) ⟨⟨Nat.zero_le _, rfl, Mkd.zero _ _ _⟩, o, Wr.refl _ _⟩ ?_
  intro a g h1 hJ
  have hi := hJ.1.1
  have hK := hJ.1.2.1
  have hm := hJ.1.2.2
  have o0 := hJ.2.1
  have r0 := hJ.2.2
  clear hJ
  have l0 := o0.lt
  have n0 := o0.len
  simp (maxSteps := 1000000) -implicitDefEqProofs only [push_cast, seval]
  with_reducible refine bcase_d (fun hb => ?_) (fun hb => ?_)
  · have hi' : a.1 < n := by omega
    with_reducible refine nameN (a.2.1 + 1) (fun K1 hK1 => ?_)
    have w1 : IntKind.i64.wrap ((a.2.1 : Int) + 1) = (K1 : Nat) := by rw [wrapSucc (by omega), hK1]
    simp (maxSteps := 1000000) -implicitDefEqProofs only [push_cast, seval]
    with_reducible refine CD.to (markText_c a.2.1 (by omega) (by omega) _) ?_
    simp (maxSteps := 1000000) -implicitDefEqProofs only [push_cast, seval, l0, w1]
    refine And.intro (by omega) (And.intro (by omega) ?_)
    refine (show Sim.Own _ id off n 1 _ from o0).wr (lo := a.1 * 1) (vs := [.string (mt a.2.1)]) (by simp only [List.length_cons, List.length_nil]; omega) (fun h2 o1 q1 => ?_)
    have l1 := o1.lt
    simp (maxSteps := 1000000) -implicitDefEqProofs only [push_cast, seval, l1, w1]
    rw [wrapSucc (by omega)]
    refine ⟨(a.1 + 1, K1, putL (a.2.2) (a.1 * 1) [.string (mt a.2.1)]), by kernel_rfl, ⟨⟨by show a.1 + 1 ≤ n; omega, by show K1 = k + (a.1 + 1) * 1; omega, ?_⟩, o1, r0.trans (q1)⟩, by show n - (a.1 + 1) < n - a.1; omega⟩
    rw [show (a.1 + 1) * 1 = a.1 * 1 + 1 from by omega]
    exact (hm).put (by (try simp only [putL_length]); omega) (by show _ = fS _; rw [show k + (a.1 * 1) = a.2.1 by omega]; rfl)
  · have e : a.1 = n := by omega
    simp (maxSteps := 1000000) -implicitDefEqProofs only [push_cast, seval]
    rw [e] at hm
    have hq := hm.all n0
    rw [hq] at o0
    refine ⟨?_, o0, r0⟩
    rw [hK, e]
    push_cast
    rfl
theorem heldStringS_o (id off n c : Nat) (k : Nat) (h : AH) (o : Sim.Own h id off n 1 (marks fS k (n * 1))) (h0 : 0 < k) (hk : k + n * 1 < 4000000000000) (hn : n < 274877906944) :
    CD Try.prog 23 [.slice (some ⟨id, off, none⟩) n c, .int .i64 (k : Nat)] h (.int .i64 ((k + n * 1 : Nat) : Int)) h := by
  refine CD.quiet ?_ (low_int _ _ _)
  refine CC.ofN Try.func23 Try.ntmps23 Try.results23 rfl (by decide) (by kernel_rfl) ?_
  simp (maxSteps := 1000000) -implicitDefEqProofs only [push_cast, seval]
  refine WC.loopA (by kernel_rfl) [1, 5] [4, 6, 7, 8, 9, 10, 11, 12, 13, 14, 15, 16, 17, 18, 19, 20] (fun a : Nat × Nat => [.int .i64 (a.2 : Nat), .int .i64 (a.1 : Nat)]) (fun a h' => (a.1 ≤ n ∧ a.2 = k + a.1 * 1) ∧ Pre h h') (fun a => n - a.1) (0, k) (by kernel_rfl) ⟨⟨Nat.zero_le _, rfl⟩, Pre.refl _⟩ ?_
  intro a g h1 hJ
  have hi := hJ.1.1
  have hK := hJ.1.2
  have hp := hJ.2
  clear hJ
  have o1 := o.pre hp
  have l1 := o1.lt
  simp (maxSteps := 1000000) -implicitDefEqProofs only [push_cast, seval]
  with_reducible refine bcase_d (fun hb => ?_) (fun hb => ?_)
  · have hi' : a.1 < n := by omega
    with_reducible refine nameN (a.2 + 1) (fun K1 hK1 => ?_)
    have w1 : IntKind.i64.wrap ((a.2 : Int) + 1) = (K1 : Nat) := by rw [wrapSucc (by omega), hK1]
    have g0 : rd1 h1 id (off + a.1 * 1) = some (.string (mt a.2)) := by
      have := o1.rd1 (j := a.1 * 1) (by omega)
      rw [show off + a.1 * 1 = off + (a.1 * 1) by omega, this, List.getD_eq_getElem?_getD, marks_get fS k (n * 1) (by omega)]
      rw [show k + (a.1 * 1) = a.2 by omega]; rfl
    simp (maxSteps := 1000000) -implicitDefEqProofs only [push_cast, seval, l1, w1, g0]
    refine WC.draw' (by kernel_rfl) (by kernel_rfl) (.q 0 (.q 1 (.q 2 (.q 3 (.q 4 (.c 5 (.q 6 (.done)))))))) (by kernel_rfl) ?_
    simp (maxSteps := 1000000) -implicitDefEqProofs only [push_cast, seval, l1, w1, g0]
    refine And.intro (by omega) (And.intro (by omega) ?_)
    simp (maxSteps := 1000000) -implicitDefEqProofs only [push_cast, seval, l1, w1, g0]
    refine CQ.pure (fun h' => markText_c a.2 (by omega) (by omega) h') ?_
    simp (maxSteps := 1000000) -implicitDefEqProofs only [push_cast, seval, l1, w1, g0]
    rw [wrapSucc (by omega)]
    exact ⟨(a.1 + 1, K1), by kernel_rfl, ⟨⟨by show a.1 + 1 ≤ n; omega, by show K1 = k + (a.1 + 1) * 1; omega⟩, hp⟩, by show n - (a.1 + 1) < n - a.1; omega⟩
  · have e : a.1 = n := by omega
    simp (maxSteps := 1000000) -implicitDefEqProofs only [push_cast, seval]
    refine ⟨by rw [hK, e]; push_cast; rfl, hp.keep⟩
theorem markStringS_n (c k : Nat) (hk : k < 4000000000000) (h : AH) : CD Try.prog 14 [.slice none 0 c, .int .i64 (k : Nat)] h (.int .i64 (k : Nat)) h := by
  refine CD.quiet ?_ (low_int _ _ _)
  refine CC.ofN Try.func14 Try.ntmps14 Try.results14 rfl (by decide) (by kernel_rfl) ?_
  simp (maxSteps := 1000000) -implicitDefEqProofs only [push_cast, seval]
  refine WC.loopA (by kernel_rfl) [1, 5] [6, 7, 8, 9, 10, 11, 12, 13, 14, 15, 16, 17, 18] (fun a : Nat => [.int .i64 (k : Nat), .int .i64 (a : Nat)]) (fun a h' => a = 0 ∧ Pre h h') (fun a => 1 - a) 0 (by kernel_rfl) ⟨rfl, Pre.refl _⟩ ?_
  intro a g h1 hJ
  have e := hJ.1
  have hp := hJ.2
  clear hJ
  subst e
  simp (maxSteps := 1000000) -implicitDefEqProofs only [push_cast, seval]
  repeat' (first | with_reducible (first | exact Keep.refl _ _ | assumption | exact byte_lt _ _ | apply Keep.alloc | (refine Keep.set ?_ ?_; rotate_left; · omega) | apply Pre.alloc | apply Pre.set | exact Pre.refl _ | exact le_alloc _ | (refine Pre.keep ?_; assumption) | (refine Pre.n ?_; assumption)) | ((with_reducible (first | refine bcase_d (fun hb => ?_) (fun hb => ?_) | refine bcase_mk (fun hb => ?_) (fun hb => ?_))) <;> try simp (maxSteps := 1000000) -implicitDefEqProofs only [push_cast, seval]) | with_reducible refine And.intro ?_ ?_ | omega | (simp only [alloc_n, set_n, kill_n]; omega) | (exfalso; omega))
theorem heldStringS_n (c k : Nat) (hk : k < 4000000000000) (h : AH) : CD Try.prog 23 [.slice none 0 c, .int .i64 (k : Nat)] h (.int .i64 (k : Nat)) h := by
  refine CD.quiet ?_ (low_int _ _ _)
  refine CC.ofN Try.func23 Try.ntmps23 Try.results23 rfl (by decide) (by kernel_rfl) ?_
  simp (maxSteps := 1000000) -implicitDefEqProofs only [push_cast, seval]
  refine WC.loopA (by kernel_rfl) [1, 5] [4, 6, 7, 8, 9, 10, 11, 12, 13, 14, 15, 16, 17, 18, 19, 20] (fun a : Nat => [.int .i64 (k : Nat), .int .i64 (a : Nat)]) (fun a h' => a = 0 ∧ Pre h h') (fun a => 1 - a) 0 (by kernel_rfl) ⟨rfl, Pre.refl _⟩ ?_
  intro a g h1 hJ
  have e := hJ.1
  have hp := hJ.2
  clear hJ
  subst e
  simp (maxSteps := 1000000) -implicitDefEqProofs only [push_cast, seval]
  repeat' (first | with_reducible (first | exact Keep.refl _ _ | assumption | exact byte_lt _ _ | apply Keep.alloc | (refine Keep.set ?_ ?_; rotate_left; · omega) | apply Pre.alloc | apply Pre.set | exact Pre.refl _ | exact le_alloc _ | (refine Pre.keep ?_; assumption) | (refine Pre.n ?_; assumption)) | ((with_reducible (first | refine bcase_d (fun hb => ?_) (fun hb => ?_) | refine bcase_mk (fun hb => ?_) (fun hb => ?_))) <;> try simp (maxSteps := 1000000) -implicitDefEqProofs only [push_cast, seval]) | with_reducible refine And.intro ?_ ?_ | omega | (simp only [alloc_n, set_n, kill_n]; omega) | (exfalso; omega))
theorem markStringS_c (n0 : Nat) (A : Option Addr) (n : Nat) (cs : List Value) (k : Nat) (h : AH) (o : Gr n0 h (.slice A n 1) 1 cs) (hc : cs.length = n * 1) (h0 : 0 < k) (hk : k + n * 1 < 4000000000000) (hn : n < 274877906944) :
    CC Try.prog 14 [.slice A n 1, .int .i64 (k : Nat)] h (fun v h' => v = .int .i64 ((k + n * 1 : Nat) : Int) ∧ Gr n0 h' (.slice A n 1) 1 (marks fS k (n * 1)) ∧ WrV h h' (.slice A n 1)) := by
  refine CC.withFit (fun ft => ?_)
  rcases o with ⟨c, e, e2⟩ | ⟨id, off, m, e, hb, ow⟩
  · injection e with e3 e4 e5
    subst e3 e4 e5 e2
    exact (markStringS_n 1 k (by omega) h).to ⟨rfl, .inl ⟨1, rfl, rfl⟩, WrV.refl _ _⟩
  · injection e with e3 e4
    subst e3 e4
    exact (markStringS_o id off n cs k h ow h0 hk hn).mono (fun v h' ⟨a, b, c⟩ => ⟨a, .inr ⟨id, off, n, rfl, hb, b⟩, c.toV ft ow⟩)
theorem heldStringS_c (n0 : Nat) (A : Option Addr) (n : Nat) (k : Nat) (h : AH) (o : Gr n0 h (.slice A n 1) 1 (marks fS k (n * 1))) (h0 : 0 < k) (hk : k + n * 1 < 4000000000000) (hn : n < 274877906944) :
    CD Try.prog 23 [.slice A n 1, .int .i64 (k : Nat)] h (.int .i64 ((k + n * 1 : Nat) : Int)) h := by
  rcases o with ⟨c, e, e2⟩ | ⟨id, off, m, e, hb, ow⟩
  · injection e with e3 e4 e5
    subst e3 e4 e5
    exact heldStringS_n 1 k (by omega) h
  · injection e with e3 e4
    subst e3 e4
    exact heldStringS_o id off n 1 k h ow h0 hk hn
theorem Gr.slice {n0 : Nat} {h : AH} {v : Value} {k : Nat} {cs : List Value} (w : Gr n0 h v k cs) (hk : 0 < k) {m : Nat} (hm : cs.length = m * k) : (∃ A, v = .slice A m k) ∨ (∃ c, v = .slice none 0 c ∧ m = 0) := by
  rcases w with ⟨c, rfl, rfl⟩ | ⟨id, off, n, rfl, b, o⟩
  · refine .inr ⟨c, rfl, ?_⟩
    rcases Nat.eq_zero_or_pos m with h | h
    · exact h
    · have := Nat.mul_pos h hk
      simp at hm; omega
  · refine .inl ⟨some ⟨id, off, none⟩, ?_⟩
    rw [Nat.eq_of_mul_eq_mul_right hk (o.len.symm.trans hm)]
theorem live.of {h h' : AH} {j : Nat} (l : live h j) (e : h'.ob j = h.ob j) : live h' j := by
  rcases l with ⟨ln, ⟨all, st, e1, hs⟩⟩ | l
  · exact .inl ⟨ln, ⟨all, st, e.trans e1, hs⟩⟩
  · exact .inr (by rw [e]; exact l)
theorem markT_any (n0 n k : Nat) (v : Value) (cs : List Value) (h : AH) (o : Gr n0 h v 1 cs) (hc : cs.length = n * 1) (h0 : 0 < k) (hk : k + n * 1 < 4000000000000) (hn : n < 274877906944) :
    CC Try.prog 14 [v, .int .i64 (k : Nat)] h (fun r h' => r = .int .i64 ((k + n * 1 : Nat) : Int) ∧ Gr n0 h' v 1 (marks fS k (n * 1)) ∧ WrV h h' v) := by
  rcases Gr.slice o (by decide) hc with ⟨A, rfl⟩ | ⟨c, rfl, rfl⟩
  · exact markStringS_c n0 A n cs k h o hc h0 hk hn
  · exact (markStringS_n c k (by omega) h).to ⟨rfl, .inl ⟨c, rfl, rfl⟩, WrV.refl _ _⟩
end Go.Proofs.Ytcggnolnakgkeaa
/- Parts of so many: plain lists. Conditions: those that each theorem names. -/
set_option linter.unusedVariables false
set_option linter.unusedSimpArgs false
namespace Go.Sim
/-- The part k of parts of N each. -/
def ck {α : Type} (N : Nat) (l : List α) (k : Nat) : List α := (l.drop (k * N)).take N
def cks {α : Type} (N : Nat) (l : List α) (m : Nat) : List (List α) := (List.range m).map (ck N l)
def nck (N len : Nat) : Nat := (len + N - 1) / N
theorem lt_nck {N len k : Nat} (hN : 0 < N) : k < nck N len ↔ k * N < len := by
  unfold nck
  rw [← Nat.succ_le_iff, Nat.le_div_iff_mul_le hN, Nat.succ_mul]
  omega
theorem cks_succ {α : Type} (N : Nat) (l : List α) (k : Nat) : cks N l (k + 1) = cks N l k ++ [ck N l k] := by
  simp [cks, List.range_succ]
theorem cks_zero {α : Type} (N : Nat) (l : List α) : cks N l 0 = [] := rfl
theorem cks_len {α : Type} (N : Nat) (l : List α) (k : Nat) : (cks N l k).length = k := by simp [cks]
theorem ck_len {α : Type} (N : Nat) (l : List α) (k : Nat) : (ck N l k).length = min N (l.length - k * N) := by simp [ck]
theorem nck_zero {N : Nat} (hN : 0 < N) : nck N 0 = 0 := by unfold nck; rw [Nat.zero_add]; exact Nat.div_eq_of_lt (by omega)
theorem nck_le {N len : Nat} (hN : 0 < N) : nck N len ≤ len := by
  rcases Nat.eq_zero_or_pos (nck N len) with e | e
  · omega
  · obtain ⟨m, hm⟩ : ∃ m, nck N len = m + 1 := ⟨nck N len - 1, by omega⟩
    have h1 := (lt_nck (N := N) (len := len) (k := m) hN).1 (by omega)
    have h2 : m * 1 ≤ m * N := Nat.mul_le_mul_left m hN
    omega
theorem cks_flat {α : Type} {N : Nat} (l : List α) : ∀ k, (cks N l k).flatten = l.take (k * N)
  | 0 => by simp [cks_zero]
  | k + 1 => by
    rw [cks_succ, List.flatten_append, cks_flat l k, Nat.succ_mul, List.take_add]
    simp [ck]
theorem cks_get {α : Type} {N : Nat} {l : List α} {m k : Nat} (hk : k < (cks N l m).length) : (cks N l m)[k] = ck N l k := by simp [cks]
/-- How many a part has, of so many asked for. -/
def partN (n : Int) (len : Nat) : Nat := if n < 1 then max len 1 else n.toNat
theorem partN_pos (n : Int) (len : Nat) : 0 < partN n len := by unfold partN; split <;> omega
def cutL {α : Type} (n : Int) (l : List α) : List (List α) := cks (partN n l.length) l (nck (partN n l.length) l.length)
theorem cutL_len {α : Type} (n : Int) (l : List α) : (cutL n l).length ≤ l.length := by unfold cutL; rw [cks_len]; exact nck_le (partN_pos _ _)
theorem cutL_flat {α : Type} (n : Int) (l : List α) : (cutL n l).flatten = l := by
  have hp := partN_pos n l.length
  unfold cutL
  rw [cks_flat]
  refine List.take_of_length_le ?_
  exact Nat.le_of_not_lt (fun hlt => Nat.lt_irrefl _ ((lt_nck (N := partN n l.length) (len := l.length) (k := nck (partN n l.length) l.length) hp).2 hlt))
theorem cutL_sum {α : Type} (n : Int) (l : List α) : ((cutL n l).map List.length).sum = l.length := by
  rw [← List.length_flatten, cutL_flat]
end Go.Sim
/- Regions that draw their order: a step that comes behind all that was read, through others. Conditions: those that each theorem names. -/
set_option linter.unusedVariables false
set_option linter.unusedSimpArgs false
namespace Go.Sim
variable {P : Program} {FB : Nat → Prop} {w0 : World} {μ : Nat → Option Loc} {h : AH} {w : World} {ops : Array Oper}
/-- With each operation all that it waits for. -/
def closed (ops : Array Oper) (l : Array Bool) : Prop := ∀ m om, ops[m]? = some om → l.getD m false = true → ∀ e ∈ om.after, Region.binds .any e = true → l.getD e.on false = true
/-- It comes behind that one, whatever the order. -/
def behind (ops : Array Oper) (j k : Nat) : Prop := ∀ l, closed ops l → j ∈ Region.ready .any ops l → l.getD k false = true
theorem closed_set {l : Array Bool} {i : Nat} (c : closed ops l) (hi : i ∈ Region.ready .any ops l) : closed ops (l.setIfInBounds i true) := by
  intro m om hm hl e he hb
  refine getD_set_true ?_
  by_cases x : i = m
  · subst x
    obtain ⟨_, o, ho, hall⟩ := mem_ready.1 hi
    obtain rfl : o = om := by rw [ho] at hm; exact Option.some.inj hm
    exact hall e he hb
  · rw [getD_set_ne false x] at hl
    exact c m om hm hl e he hb
theorem closed_none (n : Nat) : closed ops (Array.replicate n false) := by
  intro m om hm hl
  exfalso
  by_cases x : m < n <;> simp [Array.getElem?_replicate, x] at hl
def anc (ops : Array Oper) : Nat → Nat → Nat → Bool
  | 0, _, _ => false
  | n + 1, j, k => match ops[j]? with | some o => o.after.any fun e => Region.binds .any e && (e.on == k || anc ops n e.on k) | none => false
theorem anc_in {l : Array Bool} (c : closed ops l) : ∀ (n j k : Nat), anc ops n j k = true → l.getD j false = true → l.getD k false = true
  | 0, _, _, h, _ => by simp [anc] at h
  | n + 1, j, k, h, hj => by
    unfold anc at h
    split at h
    · rename_i o ho
      obtain ⟨e, he, hb⟩ := Array.any_eq_true'.1 h
      simp only [Bool.and_eq_true, Bool.or_eq_true, beq_iff_eq] at hb
      have h1 := c j o ho hj e he hb.1
      rcases hb.2 with x | x
      · rw [← x]; exact h1
      · exact anc_in c n e.on k x h1
    · cases h
theorem anc_behind {n j k : Nat} (h : anc ops n j k = true) : behind ops j k := by
  intro l c hj
  cases n with
  | zero => simp [anc] at h
  | succ n =>
    obtain ⟨_, o, ho, hall⟩ := mem_ready.1 hj
    unfold anc at h
    rw [ho] at h
    obtain ⟨e, he, hb⟩ := Array.any_eq_true'.1 h
    simp only [Bool.and_eq_true, Bool.or_eq_true, beq_iff_eq] at hb
    have h1 := hall e he hb.1
    rcases hb.2 with x | x
    · rw [← x]; exact h1
    · exact anc_in c n e.on k x h1
def keepT (ops : Array Oper) (S : List (Nat × Nat)) (j : Nat) (h h' : AH) : Prop := ∀ p ∈ S, ¬ behind ops j p.1 → h'.ob p.2 = h.ob p.2
def treeT (P : Program) (ops : Array Oper) (S : List (Nat × Nat)) (Q : List Value → AH → Prop) : Nat → Array Bool → List Value → AH → Prop
  | 0, listed, t, h => Region.ready .any ops listed = [] ∧ Q t h
  | fuel + 1, listed, t, h => (Region.ready .any ops listed = [] → Q t h) ∧
    ∀ i ∈ Region.ready .any ops listed, ∀ o, ops[i]? = some o → q1 P (dsOf ops) o t h fun t' h' => keepT ops S i h h' ∧ treeT P ops S Q fuel (listed.setIfInBounds i true) t' h'
theorem treeT_sound {S : List (Nat × Nat)} {Qa : List Value → AH → Prop} {Q : Exit → Act → World → Prop} (hok : ∀ o ∈ ops.toList, ∀ x ∈ o.op.operands, opdOK P.globals.size x = true) :
    ∀ (fuel : Nat) (listed : Array Bool) (t : List Value) (h : AH) (μ : Nat → Option Loc) (a : Act) (w : World), treeT P ops S Qa fuel listed t h → Sim P FB w0 μ h w → LR μ t a.tmps.toList → a.defers = [] →
      (∀ t' h' μ' a' w', Qa t' h' → Post P FB w0 μ h μ' h' w' → LR μ' t' a'.tmps.toList → a'.defers = [] → Q .normal a' w') → wpAny P .any ops Q fuel listed a w
  | 0, listed, t, h, μ, a, w, hk, s, ht, hd, hq => ⟨hk.1, hq t h μ a w hk.2 s.post ht hd⟩
  | fuel + 1, listed, t, h, μ, a, w, hk, s, ht, hd, hq => by
    refine ⟨fun e => hq t h μ a w (hk.1 e) s.post ht hd, fun i hi => ?_⟩
    obtain ⟨_, o, ho, _⟩ := mem_ready.1 hi
    refine wpOp_of ho (q1_wp (hk.2 i hi o ho) (hok o (by simpa using Array.mem_of_getElem? ho)) s ht hd (fun t1 h1 μ1 a1 w1 q p1 ht1 hd1 => ?_))
    exact treeT_sound hok fuel _ t1 h1 μ1 a1 w1 q.2 p1.sim ht1 hd1 (fun t2 h2 μ2 a2 w2 q2 p2 ht2 hd2 => hq t2 h2 μ2 a2 w2 q2 (p1.trans p2) ht2 hd2)

theorem treeT_first {i : Nat} {oi : Oper} {v : Value} {C : AH → Prop} {S S2 : List (Nat × Nat)} {Q : List Value → AH → Prop} (hi : ops[i]? = some oi) (hS : ∀ p ∈ S, p ∈ S2)
    (hC : ∀ j, ¬ behind ops j i → ∀ h h', C h → keepT ops S2 j h h' → C h') :
    ∀ (fuel : Nat) (listed : Array Bool) (t : List Value) (h : AH), closed ops listed →
      (∀ j oj, ops[j]? = some oj → j ≠ i → listed.getD j true = false → (∀ e ∈ oj.after, Region.binds .any e = true → e.on ≠ i) → oi.apart ops oj = true) →
      i ∈ Region.ready .any ops listed → Qt P (dsOf ops) oi t v C → C h →
      treeT P ops S2 Q fuel (listed.setIfInBounds i true) (put t oi.dst v) h → treeT P ops S Q (fuel + 1) listed t h := by
  have keepSub : ∀ {j : Nat} {h h' : AH}, keepT ops S2 j h h' → keepT ops S j h h' := fun k p hp => k p (hS p hp)
  have treeSub : ∀ (fuel : Nat) (listed : Array Bool) (t : List Value) (h : AH), treeT P ops S2 Q fuel listed t h → treeT P ops S Q fuel listed t h := by
    intro fuel
    induction fuel with
    | zero => intro listed t h hk; exact hk
    | succ fuel ih => intro listed t h hk; exact ⟨hk.1, fun i hi o ho => q1_mono (hk.2 i hi o ho) (fun t' h' q => ⟨keepSub q.1, ih _ _ _ q.2⟩)⟩
  intro fuel
  induction fuel with
  | zero =>
    intro listed t h _ _ hr hy hc H
    refine ⟨fun e => (by rw [e] at hr; cases hr), fun j hj oj hoj => ?_⟩
    by_cases hji : j = i
    · subst hji
      have : oj = oi := by rw [hi] at hoj; exact (Option.some.inj hoj).symm
      subst this
      exact hy.q1 hc ⟨fun p _ _ => rfl, treeSub _ _ _ _ H⟩
    · have := ready_mono hj hji
      rw [H.1] at this
      cases this
  | succ fuel ih =>
    intro listed t h hcl hfree hr hy hc H
    refine ⟨fun e => (by rw [e] at hr; cases hr), fun j hj oj hoj => ?_⟩
    by_cases hji : j = i
    · subst hji
      have : oj = oi := by rw [hi] at hoj; exact (Option.some.inj hoj).symm
      subst this
      exact hy.q1 hc ⟨fun p _ _ => rfl, treeSub _ _ _ _ H⟩
    · have h1 := H.2 j (ready_mono hj hji) oj hoj
      obtain ⟨hjun, oj', hoj', hall⟩ := mem_ready.1 hj
      have : oj' = oj := by rw [hoj] at hoj'; exact (Option.some.inj hoj').symm
      subst this
      have hnot : ∀ e ∈ oj'.after, Region.binds .any e = true → e.on ≠ i := fun e he hb heq => by
        have h1 := hall e he hb
        have h0 := (mem_ready.1 hr).1
        rw [heq] at h1
        rcases Nat.lt_or_ge i listed.size with h' | h'
        · simp [h'] at h0 h1; rw [h0] at h1; cases h1
        · simp [Array.getElem?_eq_none h'] at h1
      have hnb : ¬ behind ops j i := fun hbe => by
        have h1 := hbe listed hcl hj
        have h0 := (mem_ready.1 hr).1
        rcases Nat.lt_or_ge i listed.size with x | x
        · simp [x] at h0 h1; rw [h0] at h1; cases h1
        · simp [Array.getElem?_eq_none x] at h1
      have hap := hfree j oj' hoj hji hjun hnot
      have h2 := q1_put hap h1
      have hfree' : ∀ k ok, ops[k]? = some ok → k ≠ i → (listed.setIfInBounds j true).getD k true = false →
          (∀ e ∈ ok.after, Region.binds .any e = true → e.on ≠ i) → oi.apart ops ok = true := fun k ok hk hki hun hno => by
        refine hfree k ok hk hki ?_ hno
        by_cases hjk : j = k
        · subst hjk; exact hjun
        · rw [getD_set_ne true hjk] at hun; exact hun
      refine q1_mono h2 (fun t' h' q => ?_)
      obtain ⟨⟨hkeep, htree⟩, u, rfl⟩ := q
      refine ⟨keepSub hkeep, ih (listed.setIfInBounds j true) _ h' (closed_set hcl hj) hfree' (ready_mono hr (Ne.symm hji)) (hy.put (Oper.apart_spec hap).2.2) (hC j (fun hbe => hnb hbe) h h' hc hkeep) ?_⟩
      rw [Array.setIfInBounds_comm _ _ hji]
      exact htree

/-- A step that waits, through others, for all that read. -/
def lastT (ops : Array Oper) (i : Nat) : Bool := (List.range ops.size).all fun k => k == i || !rdsAt ops k || anc ops ops.size i k
def planT (ops : Array Oper) : Nat → Plan → Array Bool → Bool
  | _, .done, l => (Region.ready .any ops l).isEmpty
  | n + 1, .q i p, l => (Region.ready .any ops l).contains i && Region.free .any ops l i && planT ops n p (l.setIfInBounds i true)
  | n + 1, .c i p, l => (Region.ready .any ops l).contains i && Region.free .any ops l i && rdsAt ops i && planT ops n p (l.setIfInBounds i true)
  | n + 1, .a i fl p, l => (Region.ready .any ops l == [i]) && (!fl || lastT ops i) && planT ops n p (l.setIfInBounds i true)
  | n + 1, .b i p j p', l => (Region.ready .any ops l == [i, j]) && planT ops n p (l.setIfInBounds i true) && planT ops n p' (l.setIfInBounds j true)
  | 0, _, _ => false
theorem lastT_keep {i : Nat} (hl : lastT ops i = true) (S : List (Nat × Nat)) (hS : ∀ p ∈ S, p.1 < ops.size ∧ p.1 ≠ i ∧ rdsAt ops p.1 = true) (h h' : AH) : keepT ops S i h h' := by
  intro p hp hn
  obtain ⟨h1, h2, h3⟩ := hS p hp
  simp only [lastT, List.all_eq_true, List.mem_range, Bool.or_eq_true, beq_iff_eq] at hl
  rcases hl p.1 h1 with (e | e) | e
  · exact absurd e h2
  · rw [h3] at e; cases e
  · exact absurd (anc_behind e) hn
theorem walk_treeT {Q : List Value → AH → Prop} : ∀ (n : Nat) (p : Plan) (listed : Array Bool) (S : List (Nat × Nat)) (t : List Value) (h : AH), closed ops listed → planT ops n p listed = true → (∀ q ∈ S, q.1 < ops.size ∧ listed.getD q.1 true = true ∧ rdsAt ops q.1 = true) →
    walk P ops.toList (dsOf ops) p S t h Q → treeT P ops S Q n listed t h
  | 0, .done, listed, S, t, h, hcl, hp, _, hw => by
    simp only [planT, List.isEmpty_iff] at hp
    exact ⟨hp, hw⟩
  | n + 1, .done, listed, S, t, h, hcl, hp, _, hw => by
    simp only [planT, List.isEmpty_iff] at hp
    exact ⟨fun _ => hw, fun i hi => by rw [hp] at hi; cases hi⟩
  | 0, .q .., listed, S, t, h, hcl, hp, _, hw => by simp [planT] at hp
  | 0, .a .., listed, S, t, h, hcl, hp, _, hw => by simp [planT] at hp
  | 0, .b .., listed, S, t, h, hcl, hp, _, hw => by simp [planT] at hp
  | n + 1, .q i p, listed, S, t, h, hcl, hp, hS, hw => by
    simp only [planT, Bool.and_eq_true] at hp
    obtain ⟨⟨hr, hf⟩, hp⟩ := hp
    have hr : i ∈ Region.ready .any ops listed := by simpa using hr
    obtain ⟨o, ho, hq, hv, hk⟩ := opAt_some hw
    have ho' : ops[i]? = some o := by simpa using ho
    have hk := one_a1 hk
    have hS' : ∀ q ∈ watch i o.op (aev t) S, q.1 < ops.size ∧ (listed.setIfInBounds i true).getD q.1 true = true ∧ rdsAt ops q.1 = true := by
      have old : ∀ q ∈ S, q.1 < ops.size ∧ (listed.setIfInBounds i true).getD q.1 true = true ∧ rdsAt ops q.1 = true := fun q hq => by
        refine ⟨(hS q hq).1, ?_, (hS q hq).2.2⟩
        by_cases e : i = q.1
        · subst e
          by_cases hlt : q.1 < listed.size <;> simp [hlt]
        · rw [getD_set_ne true e]; exact (hS q hq).2.1
      intro q hq
      unfold watch at hq
      split at hq
      · rcases List.mem_cons.1 hq with rfl | hq
        · refine ⟨(Array.getElem?_eq_some_iff.1 ho').1, ?_, by unfold rdsAt; rw [ho']; exact qid_reads (by assumption)⟩
          by_cases hlt : i < listed.size <;> simp [hlt]
        · exact old q hq
      · exact old q hq
    have main : ∃ v, walk P ops.toList (dsOf ops) p (watch i o.op (aev t) S) (put t o.dst v) h Q ∧ Qt P (dsOf ops) o t v (Kept (qid (aev t) o.op) h) := by
      unfold a1 at hk
      split at hk
      · rename_i hwant
        obtain ⟨v, hv1, hv2⟩ := aop_quiet hq hv hk
        exact ⟨v, hv1, by unfold Qt; rw [if_pos hwant]; exact fun h' hC K hK => aop_sound (hv2 h' hC K hK)⟩
      · rename_i hwant
        exact ⟨undef, hk, by unfold Qt; rw [if_neg hwant]⟩
    obtain ⟨v, hk', hqt⟩ := main
    refine treeT_first (S2 := watch i o.op (aev t) S) (C := Kept (qid (aev t) o.op) h) ho' (fun p hp => ?_) (fun oj hnp h1 h2 hc hkeep id hid => ?_) n listed t h hcl (Region.free_spec ho' hf) hr hqt (fun _ _ => rfl) (walk_treeT n p _ _ _ h (closed_set hcl hr) hp hS' hk')
    · unfold watch; split
      · exact List.mem_cons_of_mem _ hp
      · exact hp
    · rw [← hc id hid]
      refine hkeep (i, id) ?_ hnp
      unfold watch; rw [hid]; simp
  | 0, .c .., listed, S, t, h, hcl, hp, _, hw => by simp [planT] at hp
  | n + 1, .c i p, listed, S, t, h, hcl, hp, hS, hw => by
    simp only [planT, Bool.and_eq_true] at hp
    obtain ⟨⟨⟨hr, hf⟩, hrd⟩, hp⟩ := hp
    have hr : i ∈ Region.ready .any ops listed := by simpa using hr
    obtain ⟨o, ho, hk⟩ := opAt_some hw
    have ho' : ops[i]? = some o := by simpa using ho
    obtain ⟨v, ids, hk', hqt⟩ := cstep_spec hk
    have hS' : ∀ q ∈ watchAll i ids S, q.1 < ops.size ∧ (listed.setIfInBounds i true).getD q.1 true = true ∧ rdsAt ops q.1 = true := by
      have old : ∀ q ∈ S, q.1 < ops.size ∧ (listed.setIfInBounds i true).getD q.1 true = true ∧ rdsAt ops q.1 = true := fun q hq => by
        refine ⟨(hS q hq).1, ?_, (hS q hq).2.2⟩
        by_cases e : i = q.1
        · subst e
          by_cases hlt : q.1 < listed.size <;> simp [hlt]
        · rw [getD_set_ne true e]; exact (hS q hq).2.1
      intro q hq
      unfold watchAll at hq
      rcases List.mem_append.1 hq with hq | hq
      · obtain ⟨id, _, rfl⟩ := List.mem_map.1 hq
        refine ⟨(Array.getElem?_eq_some_iff.1 ho').1, ?_, hrd⟩
        by_cases hlt : i < listed.size <;> simp [hlt]
      · exact old q hq
    refine treeT_first (S2 := watchAll i ids S) (C := fun h' => ∀ id ∈ ids, h'.ob id = h.ob id) ho' (fun p hp => ?_) (fun oj hnp h1 h2 hc hkeep id hid => ?_) n listed t h hcl (Region.free_spec ho' hf) hr hqt (fun _ _ => rfl) (walk_treeT n p _ _ _ h (closed_set hcl hr) hp hS' hk')
    · exact List.mem_append_right _ hp
    · rw [← hc id hid]
      exact hkeep (i, id) (List.mem_append_left _ (List.mem_map.2 ⟨id, hid, rfl⟩)) hnp
  | n + 1, .a i fl p, listed, S, t, h, hcl, hp, hS, hw => by
    simp only [planT, Bool.and_eq_true, beq_iff_eq] at hp
    obtain ⟨⟨hr, hl⟩, hp⟩ := hp
    refine ⟨fun e => (by rw [e] at hr; cases hr), fun j hj oj hoj => ?_⟩
    have hjr := hj
    rw [hr] at hj
    obtain rfl : j = i := by simpa using hj
    obtain ⟨o, ho, hk⟩ := opAt_some hw
    have ho' : ops[j]? = some o := by simpa using ho
    obtain rfl : oj = o := by rw [hoj] at ho'; exact Option.some.inj ho'
    have hun := (mem_ready.1 hjr).1
    refine q1_mono (a1_q1 (one_a1 hk)) (fun t' h' q => ⟨?_, walk_treeT n p _ S t' h' (closed_set hcl hjr) hp (fun q hq => ⟨(hS q hq).1, ?_, (hS q hq).2.2⟩) q.2⟩)
    · cases fl with
      | true =>
        refine lastT_keep (by simpa using hl) S (fun p hp => ⟨(hS p hp).1, (fun e => ?_), (hS p hp).2.2⟩) h h'
        have := (hS p hp).2.1
        rw [e, hun] at this; cases this
      | false => exact fun p hp _ => allKept_mem (by simpa using q.1) p hp
    · by_cases e : j = q.1
      · subst e
        by_cases hlt : q.1 < listed.size <;> simp [hlt]
      · rw [getD_set_ne true e]; exact (hS q hq).2.1
  | n + 1, .b i p j p', listed, S, t, h, hcl, hp, hS, hw => by
    simp only [planT, Bool.and_eq_true, beq_iff_eq] at hp
    obtain ⟨⟨hr, hp1⟩, hp2⟩ := hp
    have side : ∀ (k : Nat) (q : Plan), k ∈ Region.ready .any ops listed → planT ops n q (listed.setIfInBounds k true) = true → (opAt ops.toList k fun o => aops P (dsOf ops) [o] t h fun t' h' => allKept S h h' ∧ walk P ops.toList (dsOf ops) q S t' h' Q) →
        ∀ o, ops[k]? = some o → q1 P (dsOf ops) o t h fun t' h' => keepT ops S k h h' ∧ treeT P ops S Q n (listed.setIfInBounds k true) t' h' := by
      intro k q hkr hq hk o ho
      obtain ⟨o', ho', hk⟩ := opAt_some hk
      have ho' : ops[k]? = some o' := by simpa using ho'
      obtain rfl : o = o' := by rw [ho] at ho'; exact Option.some.inj ho'
      refine q1_mono (a1_q1 (one_a1 hk)) (fun t' h' x => ⟨fun p hp _ => allKept_mem x.1 p hp, walk_treeT n q _ S t' h' (closed_set hcl hkr) hq (fun y hy => ⟨(hS y hy).1, ?_, (hS y hy).2.2⟩) x.2⟩)
      by_cases e : k = y.1
      · subst e
        by_cases hlt : y.1 < listed.size <;> simp [hlt]
      · rw [getD_set_ne true e]; exact (hS y hy).2.1
    refine ⟨fun e => (by rw [e] at hr; cases hr), fun k hk o ho => ?_⟩
    rw [hr] at hk
    simp only [List.mem_cons, List.not_mem_nil, or_false] at hk
    rcases hk with rfl | rfl
    · exact side _ p (by rw [hr]; simp) hp1 hw.1 o ho
    · exact side _ p' (by rw [hr]; simp) hp2 hw.2 o ho

/-- A region that draws its order: one walk by a plan. -/
theorem WC.drawT {id : Nat} {l : List Oper} {t : List Value} {Q : Exit → List Value → AH → Prop} (hm : P.follows .mixedOrders = true) (hok : codeOK P.globals.size (.region id l.toArray true) = true) (p : Plan)
    (hp : planT l.toArray l.toArray.size p (Array.replicate l.toArray.size false) = true) (hw : walk P l (dsts l) p [] t h (Q .normal)) : WC P (.region id l.toArray true) Q t h := by
  intro FB w0 μ a w Q' s ht hd hq
  have s' := s.drew
  refine wp_region_any hm (treeT_sound (codeOK_ops hok) l.toArray.size _ t h μ a _ (walk_treeT l.toArray.size p _ [] t h (closed_none _) hp (fun q hq => by cases hq) hw) s' ht hd (fun t' h' μ' a' w' q p' => hq .normal t' h' μ' a' w' q ⟨p'.sim, p'.ext, p'.unt⟩))
end Go.Sim
/- Slices of the call's own that are cut and appended to again. Conditions: those that each theorem names. -/
set_option linter.unusedVariables false
set_option linter.unusedSimpArgs false
namespace Go.Sim
variable {P : Program} {h : AH}
/-- One's own slice of cells, of a line; what stands behind it in the object is nobody's any more. -/
structure Cu (h : AH) (id off n ln : Nat) (cs : List Value) : Prop where
  lt : id < h.n
  len : cs.length = n
  ob : ∃ all st, h.ob id = .cells all st ln ∧ (st = .solo ∨ st = .tip) ∧ off + n ≤ all.length ∧ (all.drop off).take n = cs
theorem Cu.line {id off n ln : Nat} {cs : List Value} (w : Cu h id off n ln cs) : Line h id ln := by
  obtain ⟨all, st, e, hs, _⟩ := w.ob
  exact ⟨all, st, e, hs⟩
theorem Cu.own {id off n ln : Nat} {cs : List Value} (w : Cu h id off n ln cs) : (h.ob id).own = some ln := by
  obtain ⟨all, st, e, hs, _⟩ := w.ob
  rw [e]
  rcases hs with rfl | rfl <;> rfl
theorem Cu.same {h' : AH} {id off n ln : Nat} {cs : List Value} (w : Cu h id off n ln cs) (e : h'.ob id = h.ob id) (hn : h.n ≤ h'.n) : Cu h' id off n ln cs :=
  ⟨Nat.lt_of_lt_of_le w.lt hn, w.len, by rw [e]; exact w.ob⟩
theorem Cu.cut {id off n ln m : Nat} {cs : List Value} (w : Cu h id off n ln cs) (hm : m ≤ n) : Cu h id off m ln (cs.take m) := by
  obtain ⟨all, st, e, hs, hl, hd⟩ := w.ob
  refine ⟨w.lt, by rw [List.length_take, w.len]; omega, all, st, e, hs, by omega, ?_⟩
  rw [← hd, List.take_take, Nat.min_eq_left hm]
theorem Cu.rd {id off n ln : Nat} {cs : List Value} (w : Cu h id off n ln cs) : Sim.rd h id off n = some cs := by
  obtain ⟨all, st, e, hs, hl, hd⟩ := w.ob
  rw [rd_of e, rdO_cells, if_pos hl, hd]
theorem Cu.rd1 {id off n ln : Nat} {cs : List Value} (w : Cu h id off n ln cs) {j : Nat} (hj : j < n) : Sim.rd1 h id (off + j) = cs[j]? := rd_rd1 w.rd hj
theorem Cu.new {id : Nat} (x : List Value) (e : h.n = id) : Cu (h.alloc (.cells x .solo h.n)) id 0 x.length id x := by
  subst e
  exact ⟨Nat.lt_succ_self _, rfl, x, .solo, alloc_same _, .inl rfl, by omega, by simp⟩
theorem Cu.wr {id off n ln : Nat} {cs : List Value} (w : Cu h id off n ln cs) {lo : Nat} (hb : lo < n) {v : Value} {K : AH → Prop}
    (hk : ∀ h', Cu h' id off n ln (cs.set lo v) → h'.n = h.n → (∀ i, i ≠ id → (h.ob i).own ≠ some ln → h'.ob i = h.ob i) → K h') : onS (wrO h id (h.ob id) (off + lo) [v]) K := by
  obtain ⟨all, st, e, hs, hl, hd⟩ := w.ob
  obtain ⟨h', e1, hn, e2, e3⟩ := wrO_own e hs [v] (off := off + lo) (by simp; omega)
  rw [e1]
  refine hk h' ⟨by rw [hn]; exact w.lt, by rw [List.length_set, w.len], putL all (off + lo) [v], st, e2, hs, by rw [putL_length]; exact hl, ?_⟩ hn e3
  rw [← hd]
  show (List.drop off (all.set (off + lo) v)).take n = _
  rw [List.drop_set, if_neg (by omega), Nat.add_sub_cancel_left, List.take_set]
theorem app_cut {t u e : TypeId} {b : Nat} {z : List Value} {ag : Bool} {id off n ln : Nat} {cs new : List Value} {m : Nat} {x : Value} {K : Value → AH → Prop}
    (hs : si P t = some (e, ⟨1, b, z, ag⟩)) (hby : b ≤ 256) (hu : notInt (P.underlying u)) (w : Cu h id off n ln cs) (hx : asrc h 1 x = some (m, new)) (hm : new.length = m) (hb : n + m < 274877906944)
    (hk : ∀ h', Cu h' h.n 0 (n + m) ln (cs ++ new) → h'.n = h.n + 1 → (∀ i, i < h.n → (h.ob i).own ≠ some ln → h'.ob i = h.ob i) → K (.slice (some ⟨h.n, 0, none⟩) (n + m) 1) h') :
    aappend P h t u (.slice (some ⟨id, off, none⟩) n 1) x K := by
  have wo := w.own
  obtain ⟨all, st, ho, hst, hl, rfl⟩ := w.ob
  have hne : h.n ≠ id := fun e => by have := w.lt; omega
  refine aapp_to ?_
  unfold aapp
  rw [hs]
  simp only [hx]
  refine ⟨by decide, hby, hu.1, hu.2, ?_⟩
  by_cases c : off + n * 1 = all.length
  · have hap : apd h id off n 1 new = some ((h.set id (.cells all .old ln)).alloc (.cells (all.drop off ++ new) .tip ln)) := by
      unfold apd
      rw [ho]
      rcases hst with rfl | rfl <;> simp [c] <;> omega
    simp only [hap]
    refine ⟨trivial, hb, ?_⟩
    have e0 : ((h.set id (.cells all .old ln)).alloc (.cells (all.drop off ++ new) .tip ln)).ob h.n = .cells (all.drop off ++ new) .tip ln := alloc_same (h := h.set id (.cells all .old ln)) _
    have ed : (all.drop off).take n = all.drop off := List.take_of_length_le (by rw [List.length_drop]; omega)
    refine hk _ ⟨Nat.lt_succ_self h.n, by rw [List.length_append, hm, w.len], _, .tip, e0, .inr rfl, by rw [List.length_append, List.length_drop]; omega, ?_⟩ rfl (fun i hi hne' => ?_)
    · rw [List.drop_zero, ed, List.take_of_length_le (by rw [List.length_append, List.length_drop]; omega)]
    · rw [alloc_lt _ (show i < (h.set id (.cells all .old ln)).n from hi), set_ne _ (fun e => hne' (by rw [e]; exact wo))]
  · have hap : apd h id off n 1 new = some ((h.kill ln).alloc (.cells ((all.drop off).take n ++ new) .tip ln)) := by
      unfold apd
      rw [ho]
      have c1 : ¬ off + n = all.length := by omega
      have c2 : off + n < all.length := by omega
      rcases hst with rfl | rfl <;> simp [c1, c2]
    simp only [hap]
    refine ⟨trivial, hb, ?_⟩
    have e0 : ((h.kill ln).alloc (.cells ((all.drop off).take n ++ new) .tip ln)).ob h.n = .cells ((all.drop off).take n ++ new) .tip ln := alloc_same (h := h.kill ln) _
    have wl := w.len
    refine hk _ ⟨Nat.lt_succ_self h.n, by rw [List.length_append, hm, w.len], _, .tip, e0, .inr rfl, by rw [List.length_append, wl]; omega, ?_⟩ rfl (fun i hi hne' => ?_)
    · rw [List.drop_zero, List.take_of_length_le (by rw [List.length_append, wl]; omega)]
    · rw [alloc_lt _ (show i < (h.kill ln).n from hi)]
      simp only [AH.kill, hne', if_false]
end Go.Sim
namespace Go.Proofs.Ytcggnolnakgkeaa
open Go Go.Sim Go.Proofs
set_option linter.unusedSimpArgs false
set_option linter.unusedVariables false
set_option maxRecDepth 100000
set_option maxHeartbeats 1000000
def txV (t : ByteArray) : Value := .string t
theorem flat_tx (l : List ByteArray) : (l.map encTx).flatten = l.map txV := by
  induction l with
  | nil => rfl
  | cons x r ih => rw [List.map_cons, List.flatten_cons, ih]; rfl
theorem rd_sub {h : AH} {id off n : Nat} {vs : List Value} (e : rd h id off n = some vs) {lo m : Nat} (hb : lo + m ≤ n) : rd h id (off + lo) m = some ((vs.drop lo).take m) := by
  rw [rd_eq] at e ⊢
  unfold rdO at e ⊢
  split at e
  · split at e
    · rename_i hh
      rw [if_pos (by omega)]
      simp only [Option.some.injEq] at e ⊢
      rw [← e, List.drop_take, List.drop_drop, List.take_take, Nat.min_eq_left (by omega)]
    · cases e
  · cases e
/-- Lines that are handed in. -/
def Lns (h : AH) (A : Option Addr) (l : List ByteArray) : Prop := 0 < l.length → ∃ id off, A = some ⟨id, off, none⟩ ∧ rd h id off l.length = some (l.map txV) ∧ id < h.n
theorem Lns.at {h : AH} {A : Option Addr} {l : List ByteArray} (r : Lns h A l) (h0 : 0 < l.length) : ∃ id off, A = some ⟨id, off, none⟩ ∧ rd h id off l.length = some (l.map txV) ∧ id < h.n := r h0
theorem Lns.pre {h h' : AH} {A : Option Addr} {l : List ByteArray} (r : Lns h A l) (p : Pre h h') : Lns h' A l := fun h0 => by
  obtain ⟨id, off, e, r, hl⟩ := r h0
  exact ⟨id, off, e, (p.rd hl _ _).trans r, Nat.lt_of_lt_of_le hl p.n⟩
theorem Lns.of {h : AH} {A : Option Addr} {c : Nat} {l : List ByteArray} (r : RdV h (.slice A l.length c) 1 encTx l) : Lns h A l := fun h0 => by
  rcases r with ⟨c', e, rfl⟩ | ⟨id, off, c', e, r, hl⟩
  · exact absurd h0 (Nat.lt_irrefl _)
  · injection e with e1 _ _
    refine ⟨id, off, e1, ?_, hl⟩
    rw [Nat.mul_one, flat_tx] at r
    exact r
theorem part_rdv {h : AH} {id off a m c : Nat} {l : List ByteArray} (r : rd h id off l.length = some (l.map txV)) (hl : id < h.n) (hb : a + m ≤ l.length) :
    RdV h (.slice (some ⟨id, off + a, none⟩) m c) 1 encTx ((l.drop a).take m) := by
  have hlen : ((l.drop a).take m).length = m := by simp; omega
  refine .inr ⟨id, off + a, c, by rw [hlen], ?_, hl⟩
  rw [hlen, Nat.mul_one, flat_tx, rd_sub r hb, List.map_take, List.map_drop]
/-- Parts that are one's own: their slice, and each of them in a slice of its own. -/
structure Parts (n0 : Nat) (h : AH) (v : Value) (L : List (List ByteArray × Value)) : Prop where
  out : Gr n0 h v 1 (L.map Prod.snd)
  inn : ∀ x ∈ L, ∃ id off, x.2 = .slice (some ⟨id, off, none⟩) x.1.length 1 ∧ n0 ≤ id ∧ Sim.Own h id off x.1.length 1 (x.1.map txV)
  apart : L.Pairwise fun x y => ∀ i, atBlock x.2 i → ¬ atBlock y.2 i
  ne : ∀ x ∈ L, ∀ i, atBlock x.2 i → ¬ atBlock v i
theorem Gr.lt {n0 : Nat} {h : AH} {v : Value} {k : Nat} {cs : List Value} (w : Gr n0 h v k cs) {i : Nat} (e : atBlock v i) : n0 ≤ i ∧ i < h.n := by
  rcases w with ⟨c, rfl, _⟩ | ⟨id, off, n, rfl, b, o⟩
  · exact e.elim
  · have e' : id = i := e
    subst e'
    exact ⟨b, o.lt⟩
theorem Parts.lt {n0 : Nat} {h : AH} {v : Value} {L : List (List ByteArray × Value)} (p : Parts n0 h v L) {i : Nat} (e : atBlock v i ∨ ∃ x ∈ L, atBlock x.2 i) : n0 ≤ i ∧ i < h.n := by
  rcases e with e | ⟨x, hx, e⟩
  · exact Gr.lt p.out e
  · obtain ⟨id, off, e1, b, o⟩ := p.inn x hx
    rw [e1] at e
    have e' : id = i := e
    subst e'
    exact ⟨b, o.lt⟩
theorem Parts.keep {n0 : Nat} {h h' : AH} {v : Value} {L : List (List ByteArray × Value)} (p : Parts n0 h v L) (hn : h.n ≤ h'.n) (e : ∀ i, (atBlock v i ∨ ∃ x ∈ L, atBlock x.2 i) → h'.ob i = h.ob i) : Parts n0 h' v L :=
  ⟨p.out.keep hn (fun i hi => e i (.inl hi)), fun x hx => by
    obtain ⟨id, off, e1, b, o⟩ := p.inn x hx
    exact ⟨id, off, e1, b, o.same (e id (.inr ⟨x, hx, by rw [e1]; rfl⟩)) hn⟩, p.apart, p.ne⟩
theorem Parts.pre {n0 : Nat} {h h' : AH} {v : Value} {L : List (List ByteArray × Value)} (p : Parts n0 h v L) (q : Pre h h') : Parts n0 h' v L := p.keep q.n (fun i hi => q.ob i (p.lt hi).2)
theorem Parts.nil {n0 : Nat} {h : AH} {v : Value} (g : Gr n0 h v 1 []) : Parts n0 h v [] := ⟨g, fun x hx => (by cases hx), List.Pairwise.nil, fun x hx => (by cases hx)⟩
theorem Parts.snoc {n0 : Nat} {h h1 h2 : AH} {v : Value} {L : List (List ByteArray × Value)} {id off b m c : Nat} {tx : List ByteArray} (p : Parts n0 h v L) (hp : Pre h h1) (hid : h.n ≤ id) (h0 : n0 ≤ id) (ow : Sim.Own h1 id off tx.length 1 (tx.map txV))
    (hg : Gr n0 h2 (.slice (some ⟨b, 0, none⟩) m c) 1 (L.map Prod.snd ++ [.slice (some ⟨id, off, none⟩) tx.length 1])) (hb : h1.n ≤ b) (hn : h1.n ≤ h2.n) (he : ∀ i, i < h1.n → ¬ atBlock v i → h2.ob i = h1.ob i) :
    Parts n0 h2 (.slice (some ⟨b, 0, none⟩) m c) (L ++ [(tx, .slice (some ⟨id, off, none⟩) tx.length 1)]) := by
  have hlt := ow.lt
  refine ⟨by rw [List.map_append]; exact hg, fun x hx => ?_, ?_, fun x hx i hi hv => ?_⟩
  · rcases List.mem_append.1 hx with hx | hx
    · obtain ⟨id', off', e1, b', o⟩ := p.inn x hx
      have hb' : atBlock x.2 id' := by rw [e1]; rfl
      exact ⟨id', off', e1, b', (o.pre hp).same (he id' (Nat.lt_of_lt_of_le o.lt hp.n) (p.ne x hx id' hb')) hn⟩
    · obtain rfl : x = (tx, .slice (some ⟨id, off, none⟩) tx.length 1) := by simpa using hx
      exact ⟨id, off, rfl, h0, ow.same (he id hlt (fun e => by have := (Gr.lt p.out e).2; omega)) hn⟩
  · refine List.pairwise_append.2 ⟨p.apart, List.pairwise_singleton _ _, fun x hx y hy i hi hi' => ?_⟩
    obtain rfl : y = (tx, .slice (some ⟨id, off, none⟩) tx.length 1) := by simpa using hy
    have h1 := (p.lt (.inr ⟨x, hx, hi⟩)).2
    have : id = i := hi'
    omega
  · have hv' : b = i := hv
    rcases List.mem_append.1 hx with hx | hx
    · have h1 := (p.lt (.inr ⟨x, hx, hi⟩)).2
      have := hp.n
      omega
    · obtain rfl : x = (tx, .slice (some ⟨id, off, none⟩) tx.length 1) := by simpa using hx
      have : id = i := hi
      omega
theorem copyTexts_c (v : Value) (l : List ByteArray) (h : AH) (r : RdV h v 1 encTx l) (hn : l.length < 274877906944) :
    CC Try.prog 21 [v] h (fun u h' => u = .slice (some ⟨h.n + 1, 0, none⟩) l.length 1 ∧ Sim.Own h' (h.n + 1) 0 l.length 1 (l.map txV) ∧ Pre h h') := by
  have y1 := r.one
  refine CC.ofN Try.func21 Try.ntmps21 Try.results21 rfl (by decide) (by kernel_rfl) ?_
  simp (maxSteps := 1000000) -implicitDefEqProofs only [push_cast, seval, y1]
  refine app_copy si24 (by decide) (by decide) (notInt_sl und24) (by (try simp (maxSteps := 1000000) -implicitDefEqProofs only [push_cast, seval, rdOb]); try rfl) (by simp only [alloc_n]; omega) (r.pre ((Pre.refl h).alloc _)) (fun _ => rfl) hn (fun h1 a1 n1 f1 => ?_)
  simp (maxSteps := 1000000) -implicitDefEqProofs only [push_cast, seval]
  rw [flat_tx] at a1
  exact ⟨a1, ⟨by rw [n1]; simp only [alloc_n]; omega, fun i hi => (f1 i (by simp only [alloc_n]; omega) (by omega)).trans (alloc_lt _ hi)⟩⟩
end Go.Proofs.Ytcggnolnakgkeaa
namespace Go.Proofs.Ytcggnolnakgkeaa
open Go Go.Sim Go.Proofs
set_option linter.unusedSimpArgs false
set_option linter.unusedVariables false
set_option maxRecDepth 100000
set_option maxHeartbeats 1000000
theorem l03Line_c (p : Nat) (S : Value) (l : List Nat) (h : AH) (d : Dw p S l h) :
    CC Try.prog 25 [.pointer (some ⟨p, 0, none⟩)] h (fun v h' => (∃ y : ByteArray, v = .string y ∧ y.size ≤ 100) ∧ Dn p S l h h') := by
  have hm := maxLen_eq
  refine CC.ofN Try.func25 Try.ntmps25 Try.results25 rfl (by decide) (by kernel_rfl) ?_
  simp (maxSteps := 1000000) -implicitDefEqProofs only [push_cast, seval]
  refine WC.loopA (by kernel_rfl) [3, 4] [5, 6, 7, 8, 9, 10, 11, 12, 13, 14, 15, 16, 17, 18, 19, 20] (fun a : Nat × ByteArray => [.string a.2, .int .i64 (a.1 : Nat)]) (fun a h' => a.1 ≤ 5 ∧ a.2.size ≤ a.1 * 10 ∧ Dn p S l h h') (fun a => 5 - a.1) (0, ⟨#[]⟩) (by kernel_rfl) ⟨by show 0 ≤ 5; omega, Nat.le_refl _, d.refl⟩ ?_
  intro a g h1 hJ
  have hi := hJ.1
  have hs := hJ.2.1
  have d1 := hJ.2.2
  clear hJ
  simp (maxSteps := 1000000) -implicitDefEqProofs only [push_cast, seval]
  with_reducible refine CC.num (l01Below_c p S l _ _ (d.dn d1)) (fun y h2 q d2 => ?_)
  have hy : (y : Int) < 5 := q.1 (by omega)
  simp (maxSteps := 1000000) -implicitDefEqProofs only [push_cast, seval]
  with_reducible refine bcase_d (fun hb => ?_) (fun hb => ?_)
  · have dw2 := (d.dn d1).dn d2
    simp (maxSteps := 1000000) -implicitDefEqProofs only [push_cast, seval]
    with_reducible refine CC.txt (l01Pick_c p S l h2.n 4 (fun y => y.size ≤ 2) _ _ (dw2.pre ((Pre.refl h2).alloc _)) (alloc_same _) (by simp only [strs]; decide) rfl (by omega) (lt_alloc _)) (fun y2 h3 q3 d3 => ?_)
    have d3' : Dn p S l h2 h3 := (dw2.toDn ((Pre.refl h2).alloc _)).trans d3
    have dw3 := dw2.dn d3'
    simp (maxSteps := 1000000) -implicitDefEqProofs only [push_cast, seval]
    refine And.intro (by omega) ?_
    with_reducible refine CC.txt (l01Pick_c p S l h3.n 8 (fun y => y.size ≤ 4) _ _ (dw3.pre ((Pre.refl h3).alloc _)) (alloc_same _) (by simp only [strs]; decide) rfl (by omega) (lt_alloc _)) (fun y3 h4 q4 d4 => ?_)
    have d4' : Dn p S l h3 h4 := (dw3.toDn ((Pre.refl h3).alloc _)).trans d4
    simp (maxSteps := 1000000) -implicitDefEqProofs only [push_cast, seval]
    have z1 : (ByteArray.mk #[32]).size = 1 := rfl
    have e1 : (a.2 ++ y2).size = a.2.size + y2.size := ByteArray.size_append
    have e2 : (a.2 ++ y2 ++ y3).size = a.2.size + y2.size + y3.size := by rw [ByteArray.size_append, e1]
    have e3 : (a.2 ++ y2 ++ y3 ++ ByteArray.mk #[32]).size = a.2.size + y2.size + y3.size + 1 := by rw [ByteArray.size_append, e2, z1]
    refine And.intro (by omega) (And.intro (by omega) ?_)
    rw [wrapSucc (by omega)]
    exact ⟨(a.1 + 1, a.2 ++ y2 ++ y3 ++ ByteArray.mk #[32]), by kernel_rfl, ⟨by show a.1 + 1 ≤ 5; omega, by show (a.2 ++ y2 ++ y3 ++ ByteArray.mk #[32]).size ≤ (a.1 + 1) * 10; omega, (((d1.trans d2).trans d3').trans d4')⟩, by show 5 - (a.1 + 1) < 5 - a.1; omega⟩
  · simp (maxSteps := 1000000) -implicitDefEqProofs only [push_cast, seval]
    exact ⟨⟨a.2, rfl, by omega⟩, d1.trans d2⟩
/-- Lines that are one's own. -/
structure OLn (n0 : Nat) (h : AH) (v : Value) (ls : List ByteArray) : Prop where
  own : ∃ id off, v = .slice (some ⟨id, off, none⟩) ls.length 1 ∧ n0 ≤ id ∧ Sim.Own h id off ls.length 1 (ls.map txV)
  len : ls.length ≤ 8
  sz : ∀ x ∈ ls, x.size ≤ 100
theorem OLn.gr {n0 : Nat} {h : AH} {v : Value} {ls : List ByteArray} (o : OLn n0 h v ls) : Gr n0 h v 1 (ls.map txV) := by
  obtain ⟨id, off, e, b, w⟩ := o.own
  exact .inr ⟨id, off, _, e, b, w⟩
theorem OLn.keep {n0 : Nat} {h h' : AH} {v : Value} {ls : List ByteArray} (o : OLn n0 h v ls) (hn : h.n ≤ h'.n) (e : ∀ i, atBlock v i → h'.ob i = h.ob i) : OLn n0 h' v ls := by
  obtain ⟨id, off, e1, b, w⟩ := o.own
  exact ⟨⟨id, off, e1, b, w.same (e id (by rw [e1]; rfl)) hn⟩, o.len, o.sz⟩
theorem OLn.pre {n0 : Nat} {h h' : AH} {v : Value} {ls : List ByteArray} (o : OLn n0 h v ls) (p : Pre h h') : OLn n0 h' v ls := o.keep p.n (fun i hi => p.ob i (Gr.lt o.gr hi).2)
theorem OLn.dn {p n0 : Nat} {S : Value} {l : List Nat} {h h' : AH} {v : Value} {ls : List ByteArray} (o : OLn n0 h v ls) (hp : p < n0) (d : Dn p S l h h') : OLn n0 h' v ls :=
  o.keep d.n (fun i hi => d.ob i (Gr.lt o.gr hi).2 (by have := (Gr.lt o.gr hi).1; omega))
theorem l11Lines_c (p : Nat) (S : Value) (l : List Nat) (h : AH) (d : Dw p S l h) :
    CC Try.prog 19 [.pointer (some ⟨p, 0, none⟩)] h (fun v h' => (∃ ls, OLn h.n h' v ls) ∧ Dn p S l h h') := by
  have hp := d.lt
  refine CC.ofN Try.func19 Try.ntmps19 Try.results19 rfl (by decide) (by kernel_rfl) ?_
  simp (maxSteps := 1000000) -implicitDefEqProofs only [push_cast, seval]
  refine WC.loopA (by kernel_rfl) [3, 4] [6, 7, 8, 9, 10, 11, 12, 13, 14, 15, 16] (fun a : Nat × Value × List ByteArray => [a.2.1, .int .i64 (a.1 : Nat)]) (fun a h' => (a.1 ≤ 8 ∧ a.2.2.length = a.1) ∧ OLn h.n h' a.2.1 a.2.2 ∧ Dn p S l h h') (fun a => 8 - a.1) (0, .slice (some ⟨h.n, 0, none⟩) 0 1, []) (by kernel_rfl) ⟨⟨by show 0 ≤ 8; omega, rfl⟩, ⟨⟨h.n, 0, rfl, Nat.le_refl _, Own.new [] 0 1 rfl⟩, Nat.zero_le _, fun x hx => (by cases hx)⟩, d.toDn ((Pre.refl h).alloc _)⟩ ?_
  intro a g h1 hJ
  have hi := hJ.1.1
  have hk := hJ.1.2
  have o1 := hJ.2.1
  have d1 := hJ.2.2
  clear hJ
  simp (maxSteps := 1000000) -implicitDefEqProofs only [push_cast, seval]
  with_reducible refine CC.num (l01Below_c p S l _ _ (d.dn d1)) (fun y h2 q d2 => ?_)
  have hy : (y : Int) < 8 := q.1 (by omega)
  have o2 := o1.dn hp d2
  simp (maxSteps := 1000000) -implicitDefEqProofs only [push_cast, seval]
  with_reducible refine bcase_d (fun hb => ?_) (fun hb => ?_)
  · have dw2 := (d.dn d1).dn d2
    simp (maxSteps := 1000000) -implicitDefEqProofs only [push_cast, seval]
    with_reducible refine CC.txt (l03Line_c p S l _ dw2) (fun y3 h3 q3 d3 => ?_)
    have o3 := o2.dn hp d3
    have n3 : h.n ≤ h3.n := ((d1.trans d2).trans d3).n
    simp (maxSteps := 1000000) -implicitDefEqProofs only [push_cast, seval]
    refine Gr.app1 (h0 := ⟨h.n, h3.ob⟩) si24 (by decide) (by decide) (notInt_sl und24) o3.gr ⟨n3, fun _ _ => rfl⟩ rfl (by rw [List.length_map]; omega) (by decide) (fun h4 gr ow p4 n4 f4 => ?_)
    simp (maxSteps := 1000000) -implicitDefEqProofs only [push_cast, seval]
    rw [wrapSucc (by omega)]
    have hlq : (List.map txV a.2.2).length / 1 + 1 = (a.2.2 ++ [y3]).length := by rw [List.length_map, Nat.div_one]; simp
    have hown : Sim.Own h4 (h3.n + 1) 0 (a.2.2 ++ [y3]).length 1 ((a.2.2 ++ [y3]).map txV) := by rw [List.map_append, ← hlq]; exact ow
    rw [hlq]
    refine ⟨(a.1 + 1, .slice (some ⟨h3.n + 1, 0, none⟩) (a.2.2 ++ [y3]).length 1, a.2.2 ++ [y3]), by kernel_rfl, ⟨⟨by show a.1 + 1 ≤ 8; omega, by show (a.2.2 ++ [y3]).length = a.1 + 1; simp; omega⟩, ⟨⟨h3.n + 1, 0, rfl, by omega, hown⟩, by simp; omega, fun x hx => ?_⟩, ⟨by omega, fun j hj hjp => (f4 j (by omega) (fun e => by have := (Gr.lt o3.gr e).1; omega)).trans (((d1.trans d2).trans d3).ob j hj hjp), ((d1.trans d2).trans d3).cur.pre (f4 p (by omega) (fun e => by have := (Gr.lt o3.gr e).1; omega))⟩⟩, by show 8 - (a.1 + 1) < 8 - a.1; omega⟩
    · rcases List.mem_append.1 hx with hx | hx
      · exact o3.sz x hx
      · obtain rfl : x = y3 := by simpa using hx
        exact q3
  · simp (maxSteps := 1000000) -implicitDefEqProofs only [push_cast, seval]
    exact ⟨⟨a.2.2, o2⟩, d1.trans d2⟩
theorem DrawCutLines_c (A : Option Addr) (c : Nat) (l : List Nat) (h : AH) (hR : RdE h A 1 byV l) (big : Big h) (hl : ∀ n ∈ l, n < 256) (hn : l.length ≤ 1048576) :
    CC Try.prog 6 [.slice A l.length c] h (fun v h' => ∃ v0 n ls, v = .tuple #[v0, .int .i64 n] ∧ n ≤ 9223372036854775807 ∧ OLn h.n h' v0 ls ∧ h.n ≤ h'.n) := by
  refine CC.ofN Try.func6 Try.ntmps6 Try.results6 rfl (by decide) (by kernel_rfl) ?_
  simp (maxSteps := 1000000) -implicitDefEqProofs only [push_cast, seval]
  with_reducible refine CC.mono (l01New_c A c l h hR big hl hn) (fun v h1 hv => ?_)
  have e1 := hv.1
  have d1 := hv.2.1
  have p1 := hv.2.2
  clear hv
  subst e1
  generalize (Value.slice A l.length c) = S at *
  simp (maxSteps := 1000000) -implicitDefEqProofs only [push_cast, seval]
  with_reducible refine CC.intp (l01PickInt_c h.n S l h1.n 8 (fun y => y ≤ 9223372036854775807) _ _ (d1.pre ((Pre.refl h1).alloc _)) (alloc_same _) (by simp only [ints]; decide) rfl (by omega) (lt_alloc _)) (fun n h2 qn d2 => ?_)
  have d2' : Dn h.n S l h1 h2 := (d1.toDn ((Pre.refl h1).alloc _)).trans d2
  have dw2 := d1.dn d2'
  simp (maxSteps := 1000000) -implicitDefEqProofs only [push_cast, seval]
  with_reducible refine CC.mono (l11Lines_c h.n S l h2 dw2) (fun v h3 hv => ?_)
  with_reducible refine Exists.elim hv.1 (fun ls o3 => ?_)
  have d3 := hv.2
  clear hv
  simp (maxSteps := 1000000) -implicitDefEqProofs only [push_cast, seval]
  have n1 := p1.n
  have n2 := d2'.n
  have n3 := d3.n
  refine ⟨v, n, ls, rfl, qn, ⟨?_, o3.len, o3.sz⟩, by omega⟩
  obtain ⟨id, off, e, b, o⟩ := o3.own
  exact ⟨id, off, e, by omega, o⟩
end Go.Proofs.Ytcggnolnakgkeaa
/- A range over a function. Conditions: those that each theorem names. -/
set_option linter.unusedVariables false
set_option linter.unusedSimpArgs false
namespace Go.Sim
open Go
variable {P : Program} {FB : Nat → Prop} {w0 : World} {μ : Nat → Option Loc} {h : AH} {w : World} {ops : Array Oper}

/-! ### the wide fence, in a round or not -/
def FW : Option Nat → Fence
  | none => Fence.wide
  | some l => Fence.wide.inRound l
theorem FW_fn (ro : Option Nat) (f : FuncId) : (FW ro).fn f := by cases ro <;> trivial
theorem FW_depth (ro : Option Nat) : (FW ro).depth = none := by cases ro <;> rfl
theorem FW_calls {ro : Option Nat} {n : Nat} {f : FuncId} {args : Array Value} {R : Ending → World → Prop} (hc : Calls P f args w R) : CallsIn (FW ro) n P f args w R := by
  cases ro with
  | none => exact callsIn_wide.2 hc
  | some l => exact CallsIn.inRound l (callsIn_wide.2 hc)
theorem FW_rows {ro : Option Nat} {n : Nat} {row : String} {args : Array Value} {R : Value → World → Prop} (hc : Rows P row args w R) : RowsIn (FW ro) n P row args w R := by
  intro c cs _
  obtain ⟨v, w', r, s⟩ := hc c cs
  refine ⟨v, w', r, ?_⟩
  cases ro with
  | none => exact stepsIn_wide.2 s
  | some l => exact stepsIn_wide.2 s
def ndo (o : Oper) : Bool := match o.op with | .defer _ => false | _ => true
theorem ndo_spec {o : Oper} (hd : ndo o = true) : ∀ c, o.op ≠ .defer c := fun c e => by simp [ndo, e] at hd
theorem FW_op {ro : Option Nat} {n : Nat} {o : Oper} {a : Act} {K : Act → World → Prop} {Q : Exit → Act → World → Prop} (hd : ndo o = true) (hw : o.wp P a w K Q) : o.wpIn (FW ro) n P a w K Q := by
  refine ⟨fun f _ => FW_fn ro f, ?_⟩
  have e : o.semAt (FW ro).round a.eval = execOp a.eval o := by
    cases ro with
    | none => rfl
    | some l => exact Oper.semAt_some l _ _ (ndo_spec hd)
  rw [e]
  unfold Oper.wp at hw
  generalize (execOp a.eval o).run P w = r at hw ⊢
  have hdp : (FW ro).depth.isSome = true → 1 ≤ n := fun e => by rw [FW_depth] at e; cases e
  cases r with
  | ok x w' => cases x <;> simp only [Oper.upon, Oper.uponIn] at hw ⊢ <;> first | exact hw | exact hw.elim | exact ⟨hdp, FW_calls hw⟩ | exact ⟨hdp, FW_rows hw⟩
  | halt x w' => cases x <;> simp only [Oper.upon, Oper.uponIn] at hw ⊢ <;> exact hw

theorem a1_wpD {ds : List Deferred} {o : Oper} {t : List Value} {Kc : List Value → AH → Prop} (hs : a1 P (ops.toList.map (·.dst)) o t h Kc) (hok : ∀ x ∈ o.op.operands, opdOK P.globals.size x = true)
    {a : Act} {K : Act → World → Prop} {Q : Exit → Act → World → Prop} (s : Sim P FB w0 μ h w) (ht : LR μ t a.tmps.toList) (hd : a.defers = ds)
    (hk : ∀ t' h' μ' a' w', Kc t' h' → Post P FB w0 μ h μ' h' w' → LR μ' t' a'.tmps.toList → a'.defers = ds → K a' w') :
    if Region.wanted o (yielded ops a.tmps) then o.wp P a w K Q else K (a.put o.dst undef) w := by
  rw [wantedL_eq ht]
  unfold a1 at hs
  by_cases hw : wantedL (ops.toList.map (·.dst)) t o = true
  · rw [if_pos hw] at hs ⊢
    exact aop_sound hs FB w0 μ a w K Q s (fun x hx => aev_VR s ht (hok x hx)) (fun v h' μ' cv w' hkv p hv => hk _ h' μ' _ w' hkv p (put_LR (ht.ext p.ext) o.dst hv) (by rw [put_defers]; exact hd))
  · rw [if_neg hw] at hs ⊢
    exact hk _ h μ _ w hs s.post (put_LR ht o.dst (VR.undef μ)) (by rw [put_defers]; exact hd)

theorem FW_if {ro : Option Nat} {n : Nat} {o : Oper} {a : Act} {K : Act → World → Prop} {Q : Exit → Act → World → Prop} {b : Bool} (hd : ndo o = true) (hw : if b = true then o.wp P a w K Q else K (a.put o.dst undef) w) :
    if b = true then o.wpIn (FW ro) n P a w K Q else (∀ f, o.about P w a.eval = some f → (FW ro).fn f) ∧ K (a.put o.dst undef) w := by
  cases b with
  | true => exact FW_op hd hw
  | false => exact ⟨fun f _ => FW_fn ro f, hw⟩

theorem aops_in {ds : List Deferred} {ro : Option Nat} {n : Nat} {Q : Exit → Act → World → Prop} {rest : List Oper} : ∀ {l : List Oper} {t : List Value} {h : AH} {Kc : List Value → AH → Prop} {μ : Nat → Option Loc} {a : Act} {w : World},
    aops P (ops.toList.map (·.dst)) l t h Kc → (∀ o ∈ l, ndo o = true) → (∀ o ∈ l, ∀ x ∈ o.op.operands, opdOK P.globals.size x = true) → Sim P FB w0 μ h w → LR μ t a.tmps.toList → a.defers = ds →
    (∀ t' h' μ' a' w', Kc t' h' → Post P FB w0 μ h μ' h' w' → LR μ' t' a'.tmps.toList → a'.defers = ds → wpListIn (FW ro) n P ops Q rest a' w') → wpListIn (FW ro) n P ops Q (l ++ rest) a w
  | [], t, h, Kc, μ, a, w, hk, hnd, hok, s, ht, hd, hq => hq t h μ a w hk s.post ht hd
  | o :: r, t, h, Kc, μ, a, w, hk, hnd, hok, s, ht, hd, hq => by
    refine wpListIn_step (rest := r ++ rest) (fun K hK => FW_if (hnd o (by simp)) ?_)
    refine a1_wpD (a1_of hk) (hok o (by simp)) s ht hd (fun t1 h1 μ1 a1 w1 hk1 p1 ht1 hd1 => hK _ _ ?_)
    exact aops_in hk1 (fun o' ho' => hnd o' (by simp [ho'])) (fun o' ho' => hok o' (by simp [ho'])) p1.sim ht1 hd1 (fun t2 h2 μ2 a2 w2 q2 p2 ht2 hd2 => hq t2 h2 μ2 a2 w2 q2 (p1.trans p2) ht2 hd2)

theorem wpOpIn_of {ro : Option Nat} {n : Nat} {Q : Exit → Act → World → Prop} {i : Nat} {o : Oper} {K : Act → World → Prop} {a : Act} {w : World} (ho : ops[i]? = some o) (hd : ndo o = true)
    (hk : if Region.wanted o (yielded ops a.tmps) = true then Oper.wp P o a w K Q else K (a.put o.dst undef) w) : wpOpIn (FW ro) n P ops Q i K a w := by
  unfold wpOpIn
  rw [ho]
  exact FW_if hd hk

theorem tree_in {ro : Option Nat} {n : Nat} {S : List (Nat × Nat)} {Qa : List Value → AH → Prop} {Q : Exit → Act → World → Prop} (hok : ∀ o ∈ ops.toList, ∀ x ∈ o.op.operands, opdOK P.globals.size x = true) (hnd : ∀ o ∈ ops.toList, ndo o = true) :
    ∀ (fuel : Nat) (listed : Array Bool) (t : List Value) (h : AH) (μ : Nat → Option Loc) (a : Act) (w : World), tree P ops S Qa fuel listed t h → Sim P FB w0 μ h w → LR μ t a.tmps.toList → a.defers = [] →
      (∀ t' h' μ' a' w', Qa t' h' → Post P FB w0 μ h μ' h' w' → LR μ' t' a'.tmps.toList → a'.defers = [] → Q .normal a' w') → wpAnyIn (FW ro) n P .any ops Q fuel listed a w
  | 0, listed, t, h, μ, a, w, hk, s, ht, hd, hq => ⟨hk.1, hq t h μ a w hk.2 s.post ht hd⟩
  | fuel + 1, listed, t, h, μ, a, w, hk, s, ht, hd, hq => by
    refine ⟨fun e => hq t h μ a w (hk.1 e) s.post ht hd, fun i hi => ?_⟩
    obtain ⟨_, o, ho, _⟩ := mem_ready.1 hi
    have hmem : o ∈ ops.toList := by simpa using Array.mem_of_getElem? ho
    refine wpOpIn_of ho (hnd o hmem) (q1_wp (hk.2 i hi o ho) (hok o hmem) s ht hd (fun t1 h1 μ1 a1 w1 q p1 ht1 hd1 => ?_))
    exact tree_in hok hnd fuel _ t1 h1 μ1 a1 w1 q.2 p1.sim ht1 hd1 (fun t2 h2 μ2 a2 w2 q2 p2 ht2 hd2 => hq t2 h2 μ2 a2 w2 q2 (p1.trans p2) ht2 hd2)

/-! ### code in a round -/
def WR (P : Program) (l : Nat) (c : Code) (Q : Exit → List Value → AH → Prop) (t : List Value) (h : AH) : Prop :=
  ∀ FB w0 μ (a : Act) (w : World) (Q' : Exit → Act → World → Prop), Sim P FB w0 μ h w → LR μ t a.tmps.toList → a.defers = [] →
    (∀ ex t' h' μ' a' w', Q ex t' h' → Post P FB w0 μ h μ' h' w' → LR μ' t' a'.tmps.toList → a'.defers = [] → Q' ex a' w') → c.wpIn (Fence.wide.inRound l) 0 P Q' a w
theorem WR.region {l id : Nat} {t : List Value} {Q : Exit → List Value → AH → Prop} (hok : codeOK P.globals.size (.region id ops false) = true) (hnd : ops.toList.all ndo = true)
    (hk : aops P (ops.toList.map (·.dst)) ops.toList t h (Q .normal)) : WR P l (.region id ops false) Q t h := fun FB w0 μ a w Q' s ht hd hq => by
  refine wpIn_region_list ?_
  have := aops_in (ro := some l) (n := 0) (rest := []) (Q := Q') hk (fun o ho => List.all_eq_true.1 hnd o ho) (codeOK_ops hok) s ht hd (fun t' h' μ' a' w' q p h1 h2 => hq .normal t' h' μ' a' w' q p h1 h2)
  rwa [List.append_nil] at this
theorem WR.draw {l id : Nat} {t : List Value} {Q : Exit → List Value → AH → Prop} (hm : P.follows .mixedOrders = true) (hok : codeOK P.globals.size (.region id ops true) = true) (hnd : ops.toList.all ndo = true) (p : Plan)
    (hp : planOK ops ops.size p (Array.replicate ops.size false) = true) (hw : walk P ops.toList (ops.toList.map (·.dst)) p [] t h (Q .normal)) : WR P l (.region id ops true) Q t h := by
  intro FB w0 μ a w Q' s ht hd hq
  have s' := s.drew
  exact wpIn_region_any hm (tree_in (ro := some l) (codeOK_ops hok) (fun o ho => List.all_eq_true.1 hnd o ho) ops.size _ t h μ a _ (walk_tree ops.size p _ [] t h hp (fun q hq => by cases hq) hw) s' ht hd (fun t' h' μ' a' w' q p' => hq .normal t' h' μ' a' w' q ⟨p'.sim, p'.ext, p'.unt⟩))
theorem WR.block {l id : Nat} {c : Code} {t : List Value} {Q : Exit → List Value → AH → Prop} (hw : WR P l c (fun ex t h => match ex with | .exit i => if i = id then Q .normal t h else Q (.exit i) t h | ex => Q ex t h) t h) : WR P l (.block id c) Q t h := by
  intro FB w0 μ act w Q' s ht hd hq
  refine wpIn_block (hw FB w0 μ act w _ s ht hd (fun ex t1 h1 μ1 a1 w1 q1 p1 ht1 hd1 => ?_))
  cases ex <;> first | exact hq _ t1 h1 μ1 a1 w1 q1 p1 ht1 hd1 | skip
  rename_i i
  simp only [Exit.inBlock] at q1 ⊢
  split
  · rename_i e; simp only [e, if_true] at q1; exact hq _ t1 h1 μ1 a1 w1 q1 p1 ht1 hd1
  · rename_i e; simp only [e, if_false] at q1; exact hq _ t1 h1 μ1 a1 w1 q1 p1 ht1 hd1

/-! ### the heap's other blocks turned -/
theorem cell_block {a : Addr} {v : Value} (e : w.cell? a = some v) : ∃ arr et fz, w.heap[a.block]? = some (.cells arr et fz) := by
  unfold World.cell? at e
  split at e
  · rename_i arr et fz hb; exact ⟨arr, et, fz, hb⟩
  · cases e
theorem Sim.swap {FB' : Nat → Prop} {w0' w' : World} (s : Sim P FB w0 μ h w) (ho : w'.os = w0'.os) (ht : w'.tape = w0'.tape) (hu : w'.output = w0'.output)
    (hf : ∀ b, FB' b → b < w'.heap.size ∧ w'.heap[b]? = w0'.heap[b]?)
    (hc : ∀ b arr e fz, w.heap[b]? = some (.cells arr e fz) → w'.heap[b]? = some (.cells arr e fz) ∧ (FB' b ↔ FB b))
    (hm : ∀ b es c, w.heap[b]? = some (.map es c) → w'.heap[b]? = some (.map es c) ∧ (FB' b → FB b)) : Sim P FB' w0' μ h w' := by
  have rob : ∀ i l cs ln, μ i = some l → h.ob i = .cells cs .ro ln → (cs = [] → i < P.globals.size) → FB' l.b := by
    intro i l cs ln hi hob hcs
    have hF := s.rob i l cs ln hi hob hcs
    cases cs with
    | nil =>
      have hg := hcs rfl
      obtain ⟨l', e1, e2, e3⟩ := s.glob i hg
      obtain rfl : l = l' := by rw [hi] at e1; exact Option.some.inj e1
      obtain ⟨arr, e, fz, h1, h2⟩ := s.tab i [] ln hg hob
      rw [e2] at hF ⊢
      exact (hc i arr e fz ((s.frame i hF).2.trans h1)).2.2 hF
    | cons x r =>
      obtain ⟨cv, h1, h2⟩ := s.cell i l _ _ ln hi hob 0 (by simp)
      obtain ⟨arr, e, fz, h3⟩ := cell_block h1
      exact (hc l.b arr e fz h3).2.2 hF
  refine { s with os := ho, tape := ht, out := hu, frame := hf, tab := ?_, cell := ?_, blk := ?_, rob := rob, mp := ?_ }
  · intro g cs ln hg hob
    obtain ⟨l, e1, e2, e3⟩ := s.glob g hg
    obtain ⟨arr, e, fz, h1, h2⟩ := s.tab g cs ln hg hob
    have hF := s.rob g l cs ln e1 hob (fun _ => hg)
    have hF' := rob g l cs ln e1 hob (fun _ => hg)
    rw [e2] at hF hF'
    exact ⟨arr, e, fz, (hf g hF').2.symm.trans (hc g arr e fz ((s.frame g hF).2.trans h1)).1, h2⟩
  · intro i l cs st ln hi hob j hj
    obtain ⟨cv, h1, h2⟩ := s.cell i l cs st ln hi hob j hj
    obtain ⟨arr, e, fz, h3⟩ := cell_block h1
    refine ⟨cv, ?_, h2⟩
    have h4 := (hc _ arr e fz h3).1
    simp only [World.cell?, h3, h4] at h1 ⊢
    exact h1
  · intro i l cs st ln hi hob hst
    obtain ⟨h1, ⟨arr, e, fz, h2, h3⟩, h4⟩ := s.blk i l cs st ln hi hob hst
    obtain ⟨h5, h6⟩ := hc _ arr e fz h2
    exact ⟨fun x => h1 (h6.1 x), ⟨arr, e, fz, h5, h3⟩, h4⟩
  · intro i l es hi hob
    obtain ⟨h1, ents, c, h2, h3⟩ := s.mp i l es hi hob
    obtain ⟨h4, h5⟩ := hm _ ents c h2
    exact ⟨fun x => h1 (h5 x), ents, c, h4, h3⟩

/-! ### the iterator: with the loop's record laid -/
/-- A call of yield with these arguments: what it gives and the heap then. -/
def YX (P : Program) (FB : Nat → Prop) (w0 : World) (μ0 : Nat → Option Loc) (l : Nat) (args : List Value) (h : AH) (R : Value → AH → Prop) : Prop :=
  ∀ μ (w : World) (cargs : Array Value) (R' : Ending → World → Prop), Ext μ0 μ → Sim P FB w0 μ h w → LR μ args cargs.toList →
    (∀ v h' μ' cv w', R v h' → Post P FB w0 μ h μ' h' w' → VR μ' v cv → R' (.returned cv) w') → YieldAt Fence.wide 0 P l cargs w R'
def CX (P : Program) (FB : Nat → Prop) (w0 : World) (μ0 : Nat → Option Loc) (f : FuncId) (args : List Value) (h : AH) (R : Value → AH → Prop) : Prop :=
  ∀ μ (w : World) (cargs : Array Value) (R' : Ending → World → Prop), Ext μ0 μ → Sim P FB w0 μ h w → LR μ args cargs.toList →
    (∀ v h' μ' cv w', R v h' → Post P FB w0 μ h μ' h' w' → VR μ' v cv → R' (.returned cv) w') → Calls P f cargs w R'
def WX (P : Program) (FB : Nat → Prop) (w0 : World) (μ0 : Nat → Option Loc) (c : Code) (Q : Exit → List Value → AH → Prop) (t : List Value) (h : AH) : Prop :=
  ∀ μ (a : Act) (w : World) (Q' : Exit → Act → World → Prop), Ext μ0 μ → Sim P FB w0 μ h w → LR μ t a.tmps.toList → a.defers = [] →
    (∀ ex t' h' μ' a' w', Q ex t' h' → Post P FB w0 μ h μ' h' w' → LR μ' t' a'.tmps.toList → a'.defers = [] → Q' ex a' w') → c.wp P Q' a w
variable {μ0 : Nat → Option Loc}
theorem WC.x {c : Code} {Q : Exit → List Value → AH → Prop} {t : List Value} (hw : WC P c Q t h) : WX P FB w0 μ0 c Q t h := fun μ a w Q' _ s ht hd hq => hw FB w0 μ a w Q' s ht hd hq
theorem WX.seq {a b : Code} {Q : Exit → List Value → AH → Prop} {t : List Value} (ha : WX P FB w0 μ0 a (fun ex t h => match ex with | .normal => WX P FB w0 μ0 b Q t h | ex => Q ex t h) t h) : WX P FB w0 μ0 (.seq a b) Q t h := by
  intro μ act w Q' hx s ht hd hq
  refine wp_seq (ha μ act w _ hx s ht hd (fun ex t1 h1 μ1 a1 w1 q1 p1 ht1 hd1 => ?_))
  cases ex with
  | normal => exact q1 μ1 a1 w1 Q' (hx.trans p1.ext) p1.sim ht1 hd1 (fun ex t2 h2 μ2 a2 w2 q2 p2 ht2 hd2 => hq ex t2 h2 μ2 a2 w2 q2 (p1.trans p2) ht2 hd2)
  | _ => exact hq _ t1 h1 μ1 a1 w1 q1 p1 ht1 hd1
theorem WX.block {id : Nat} {c : Code} {Q : Exit → List Value → AH → Prop} {t : List Value} (hw : WX P FB w0 μ0 c (fun ex t h => match ex with | .exit i => if i = id then Q .normal t h else Q (.exit i) t h | ex => Q ex t h) t h) : WX P FB w0 μ0 (.block id c) Q t h := by
  intro μ act w Q' hx s ht hd hq
  refine wp_block (hw μ act w _ hx s ht hd (fun ex t1 h1 μ1 a1 w1 q1 p1 ht1 hd1 => ?_))
  cases ex <;> first | exact hq _ t1 h1 μ1 a1 w1 q1 p1 ht1 hd1 | skip
  rename_i i
  simp only [Exit.inBlock] at q1 ⊢
  split
  · rename_i e; simp only [e, if_true] at q1; exact hq _ t1 h1 μ1 a1 w1 q1 p1 ht1 hd1
  · rename_i e; simp only [e, if_false] at q1; exact hq _ t1 h1 μ1 a1 w1 q1 p1 ht1 hd1
theorem WX.mono {c : Code} {Q Q1 : Exit → List Value → AH → Prop} {t : List Value} (hw : WX P FB w0 μ0 c Q1 t h) (hm : ∀ ex t h, Q1 ex t h → Q ex t h) : WX P FB w0 μ0 c Q t h :=
  fun μ a w Q' hx s ht hd hq => hw μ a w Q' hx s ht hd (fun ex t' h' μ' a' w' q => hq ex t' h' μ' a' w' (hm ex t' h' q))
theorem WX.loop {c : Code} {Q : Exit → List Value → AH → Prop} {t : List Value} (I : List Value → AH → Prop) (m : List Value → AH → Nat) (h0 : I t h)
    (round : ∀ t h, I t h → WX P FB w0 μ0 c (fun ex t' h' => match ex with | .normal => I t' h' ∧ m t' h' < m t h | ex => Q ex t' h') t h) : WX P FB w0 μ0 (.loop c) Q t h := by
  intro μ a w Q' hx s ht hd hq
  have key : ∀ (k : Nat) (t : List Value) (h : AH) (μ : Nat → Option Loc) (a : Act) (w : World), m t h < k → I t h → Ext μ0 μ → Sim P FB w0 μ h w → LR μ t a.tmps.toList → a.defers = [] →
      (∀ ex t' h' μ' a' w', Q ex t' h' → Post P FB w0 μ h μ' h' w' → LR μ' t' a'.tmps.toList → a'.defers = [] → Q' ex a' w') → Code.rounds P c Q' k a w := by
    intro k
    induction k with
    | zero => intro t h μ a w hk; omega
    | succ k ih =>
      intro t h μ a w hk hi hx s ht hd hq
      rw [rounds_succ]
      refine round t h hi μ a w _ hx s ht hd (fun ex t1 h1 μ1 a1 w1 q1 p1 ht1 hd1 => ?_)
      cases ex with
      | normal => exact ih t1 h1 μ1 a1 w1 (by have := q1.2; omega) q1.1 (hx.trans p1.ext) p1.sim ht1 hd1 (fun ex t2 h2 μ2 a2 w2 q2 p2 ht2 hd2 => hq ex t2 h2 μ2 a2 w2 q2 (p1.trans p2) ht2 hd2)
      | _ => exact hq _ t1 h1 μ1 a1 w1 q1 p1 ht1 hd1
  exact wp_loop_rounds (m t h + 1) (key (m t h + 1) t h μ a w (by omega) h0 hx s ht hd hq)
/-- A region in which yield is called. -/
theorem WX.yield {id : Nat} {pre rest : List Oper} {o : Oper} {g x : Tmp} {ats : Array TypeId} {l : Nat} {Q : Exit → List Value → AH → Prop} {t : List Value}
    (hok : codeOK P.globals.size (.region id ops false) = true) (hnd : ops.toList.all ndo = true) (e : ops.toList = pre ++ o :: rest) (ho : o.op = .call { callee := .value (.tmp g), args := #[.tmp x], argTypes := ats }) (hg : o.guard = none)
    (hw : aops P (ops.toList.map (·.dst)) pre t h fun t1 h1 => t1.getD g undef = .func (.yield l) #[] #[] ∧
      YX P FB w0 μ0 l [t1.getD x undef] h1 fun v h2 => aops P (ops.toList.map (·.dst)) rest (put t1 o.dst v) h2 (Q .normal)) : WX P FB w0 μ0 (.region id ops false) Q t h := by
  intro μ a w Q' hx s ht hd hq
  have hnd' : ∀ o ∈ ops.toList, ndo o = true := fun o ho => List.all_eq_true.1 hnd o ho
  have hok' := codeOK_ops hok
  refine (wpIn_wide (n := 0)).1 (wpIn_region_list ?_)
  rw [e]
  refine aops_in (ro := none) (n := 0) hw (fun o' h' => hnd' o' (by rw [e]; simp [h'])) (fun o' h' => hok' o' (by rw [e]; simp [h'])) s ht hd (fun t1 h1 μ1 a1 w1 hk p1 ht1 hd1 => ?_)
  obtain ⟨hf, hy⟩ := hk
  refine wpListIn_plain hg (fun K hK => ⟨fun f _ => trivial, ?_⟩)
  have hvf : VR μ1 (t1.getD g undef) (a1.eval (.tmp g)) := aev_VR (x := .tmp g) p1.sim ht1 rfl
  have hvx : VR μ1 (t1.getD x undef) (a1.eval (.tmp x)) := aev_VR (x := .tmp x) p1.sim ht1 rfl
  rw [hf] at hvf
  generalize hc : a1.eval (.tmp g) = cf at hvf
  cases hvf with
  | plain _ hq => simp [isPlain] at hq
  | func _ _ f' _ c' hfs hcs ef ec =>
    obtain rfl : f' = #[] := Array.eq_empty_of_size_eq_zero hfs.symm
    obtain rfl : c' = #[] := Array.eq_empty_of_size_eq_zero hcs.symm
    have hrun : (o.semAt (FW none).round a1.eval).run P w1 = (Instr.yield l #[a1.eval (.tmp x)]).run P w1 := by
      show (execOp a1.eval o).run P w1 = _
      simp [execOp, ho, resolve, hc, Deferred.ofValue, invoke]
    obtain ⟨fn, tmps, assign, body, hy1, hy2⟩ := hy μ1 w1 #[a1.eval (.tmp x)] (fun e w => match e with | .returned v => K (a1.put o.dst v) w | _ => False) (hx.trans p1.ext) p1.sim (LR.cons hvx (LR.nil _)) (fun v h' μ' cv w' r p hv => hK _ _ (by
      have := aops_in (ro := none) (n := 0) (rest := []) (Q := Q') r (fun o' h' => hnd' o' (by rw [e]; simp [h'])) (fun o' h' => hok' o' (by rw [e]; simp [h'])) p.sim (put_LR (ht1.ext p.ext) o.dst hv) (by rw [put_defers]; exact hd1)
        (fun t3 h3 μ3 a3 w3 q p3 ht3 hd3 => hq .normal t3 h3 μ3 a3 w3 q ((p1.trans p).trans p3) ht3 hd3)
      rwa [List.append_nil] at this))
    rw [hrun, hy1]
    refine ⟨fun e => (by cases e), RoundIn.mono hy2 (fun e w' he => ?_)⟩
    cases e with
    | returned v => exact he
    | panicked c => exact he.elim
    | outgrown => exact he.elim
theorem CX.of {f : FuncId} {fn : Func} {c : Code} {args : List Value} {R : Value → AH → Prop} (hf : P.funcs[f]? = some fn) (hb : fn.body = some c) 
    (hw : WX P FB w0 μ0 c (bodyQ P fn.results.toList R) (args ++ List.replicate (fn.ntmps - args.length) undef) h) : CX P FB w0 μ0 f args h R := by
  intro μ w cargs R' hx s ha hk
  refine calls_of_wp hf hb (hw μ _ w _ hx s ?_ rfl (fun ex t' h' μ' a' w' q p ht hd => ?_))
  · simp only [Array.toList_append, Array.toList_replicate]
    have e : args.length = cargs.size := by simpa using ha.1
    rw [e]
    exact ha.append ⟨rfl, fun j a b => by simp; exact VR.undef μ⟩
  · obtain ⟨hex, hres⟩ := q
    obtain ⟨vs, hR, hvs⟩ := ares_sound hres
    obtain ⟨cvs, q1, q2⟩ := hvs FB w0 μ' a' w' p.sim ht
    have hrun : (results fn a'.tmps).run P w' = .ok (if h : cvs.toArray.size = 1 then cvs.toArray[0] else .tuple cvs.toArray) w' := by
      rw [results_eq, Array.mapM_eq_mapM_toList]
      simp only [Sem.run_bind, Sem.run_map, q1, Result.andThen_ok, Sem.run_pure]
    have hR' := hk _ h' μ' _ w' hR p (packed_VR q2)
    rcases hex with rfl | rfl <;> exact ⟨hd, _, hrun, hR'⟩

/-! ### the caller -/
/-- An iterator that hands on these values, one after the other. -/
def Iter (P : Program) (fi : FuncId) (first cap : Array Value) (arg : Nat → Value) (m : Nat) (J : Nat → AH → Prop) : Prop :=
  ∀ FB w0 μ0 l h, J 0 h → (∀ k, k < m → ∀ h, J k h → YX P FB w0 μ0 l [arg k] h fun v h' => v = .bool true ∧ J (k + 1) h') →
    CX P FB w0 μ0 fi (first.toList ++ [.func (.yield l) #[] #[]] ++ cap.toList) h fun _ h' => J m h'
/-- Code, to the function's end. -/
def WF (P : Program) (fn : Func) (R : Value → AH → Prop) (c : Code) (t : List Value) (h : AH) : Prop :=
  ∀ FB w0 μ (a : Act) (w : World) (R' : Ending → World → Prop), Sim P FB w0 μ h w → LR μ t a.tmps.toList → a.defers = [] →
    (∀ v h' μ' cv w', R v h' → Post P FB w0 μ h μ' h' w' → VR μ' v cv → R' (.returned cv) w') → c.wpIn Fence.wide 0 P (bodyPostM Fence.wide 0 P fn R') a w
theorem CE.ofF {f : FuncId} {fn : Func} {c : Code} {args : List Value} {R : Value → AH → Prop} (hf : P.funcs[f]? = some fn) (hb : fn.body = some c)
    (hw : WF P fn R c (args ++ List.replicate (fn.ntmps - args.length) undef) h) : CE P f args h R := by
  intro FB w0 μ w cargs R' s ha hk
  refine (callsIn_wide (n := 0)).1 (callsIn_of_wp_marks hf hb trivial (hw FB w0 μ _ w R' s ?_ rfl hk) rfl)
  simp only [Array.toList_append, Array.toList_replicate]
  have e : args.length = cargs.size := by simpa using ha.1
  rw [e]
  exact ha.append ⟨rfl, fun j a b => by simp; exact VR.undef μ⟩
theorem WF.seq {fn : Func} {R : Value → AH → Prop} {A C : Code} {t : List Value} (hA : WC P A (fun ex t1 h1 => ex = .normal ∧ WF P fn R C t1 h1) t h) : WF P fn R (.seq A C) t h := by
  intro FB w0 μ a w R' s ht hd hk
  refine wpIn_seq (wpIn_wide.2 (hA FB w0 μ a w _ s ht hd (fun ex t1 h1 μ1 a1 w1 q p1 ht1 hd1 => ?_)))
  obtain ⟨rfl, q⟩ := q
  exact q FB w0 μ1 a1 w1 R' p1.sim ht1 hd1 (fun v h' μ' cv w' r p hv => hk v h' μ' cv w' r (p1.trans p) hv)
/-- What a loop over an iterator wants at its head: the function; what holds round by round; the body's walk; what stands behind. -/
structure RG (P : Program) (fn : Func) (R : Value → AH → Prop) (g p : Tmp) (assign body : Code) (ops : Array Oper) (fi : FuncId) (first cap : Array Value) (arg : Nat → Value) (m : Nat) (J : Nat → AH → Prop) (t : List Value) (h : AH) : Prop where
  fv : t.getD g undef = .func (.func fi) first cap
  cb : callB P fi = true
  j0 : J 0 h
  it : Iter P fi first cap arg m J
  round : ∀ l k h, k < m → J k h → WR P l assign (fun ex t2 h2 => ex = .normal ∧ WR P l body (fun ex _ h3 => ex = .normal ∧ J (k + 1) h3) t2 h2) (t.set p (arg k)) h
  behind : ∀ h', J m h' → aops P (ops.toList.map (·.dst)) ops.toList t h' fun t3 h3 => ares P h3 t3 fn.results.toList fun vs => R (packed vs) h3

theorem LR.set' {μ : Nat → Option Loc} {t : List Value} {a : Array Value} {v c : Value} (ht : LR μ t a.toList) (p : Nat) (hv : VR μ v c) : LR μ (t.set p v) (a.setIfInBounds p c).toList := by
  refine ⟨by simpa using ht.1, fun j h1 h2 => ?_⟩
  have h1' : j < t.length := by simpa using h1
  have h2' : j < a.size := by simpa using h2
  by_cases e : p = j
  · subst e; simpa using hv
  · have := ht.2 j h1' (by simpa using h2')
    simpa [List.getElem_set, Array.getElem_setIfInBounds, e] using this

theorem WF.range {fn : Func} {R : Value → AH → Prop} {A assign body : Code} {idb idr : Nat} {g p : Tmp} {t : List Value} (hokr : codeOK P.globals.size (.region idr ops false) = true) (hnd : ops.toList.all ndo = true)
    (hA : WC P A (fun ex t1 h1 => ex = .normal ∧ ∃ fi first cap arg m J, RG P fn R g p assign body ops fi first cap arg m J t1 h1) t h) :
    WF P fn R (.seq (.seq A (.block idb (.rangeFunc (.tmp g) #[p] assign body))) (.seq (.region idr ops false) .ret)) t h := by
  intro FB w0 μ a w R' s ht hd hk
  refine wpIn_seq (wpIn_seq (wpIn_wide.2 (hA FB w0 μ a w _ s ht hd (fun ex t1 h1 μ1 a1 w1 q p1 ht1 hd1 => ?_))))
  obtain ⟨rfl, fi, first, cap, arg, m, J, q⟩ := q
  refine wpIn_block (wpIn_rangeFunc (fun fnid _ => ?_))
  have hvf : VR μ1 (t1.getD g undef) (a1.eval (.tmp g)) := aev_VR (x := .tmp g) p1.sim ht1 rfl
  rw [q.fv] at hvf
  generalize hc : a1.eval (.tmp g) = cf at hvf
  cases hvf with
  | plain _ hq => simp [isPlain] at hq
  | func _ _ f' _ c' hfs hcs ef ec =>
  have s1 := p1.sim
  generalize hD : w1.heap.size = D
  obtain ⟨rec0, hrec⟩ : ∃ r : Loop, r = { state := .ready, pending := none, fn := fnid, tmps := a1.tmps, params := #[p], assign, body, defers := D } := ⟨_, rfl⟩
  obtain ⟨w2, hw2⟩ : ∃ w2 : World, w2 = (w1.alloc (.deferred (some []))).alloc (.loop rec0) := ⟨_, rfl⟩
  have hent : (Instr.enterLoop fnid a1.tmps #[p] assign body Fence.wide.round).run P w1 = .ok (D + 1, [{ target := .collected D, args := #[] }]) w2 := by
    rw [hw2, hrec, ← hD]; exact run_enterLoop_outer fnid a1.tmps #[p] assign body
  have hcall : (callFunc fi (f' ++ #[.func (.yield (D + 1)) #[] #[]] ++ c')).run P w2 = .ok (.enter fi (f' ++ #[.func (.yield (D + 1)) #[] #[]] ++ c')) w2 := by
    have hb := q.cb
    unfold callB at hb
    split at hb
    · rename_i fn' hf
      simp only [Bool.and_eq_true, bne_iff_ne, ne_eq] at hb
      obtain ⟨hn, hbody⟩ := hb
      obtain ⟨cd, hcd⟩ := Option.isSome_iff_exists.1 hbody
      simp [callFunc, hf, hn, hcd]
    · cases hb
  refine ⟨D + 1, _, w2, { target := .fn (.func fi) c', args := f' ++ #[.func (.yield (D + 1)) #[] #[]] }, w2, fi, f' ++ #[.func (.yield (D + 1)) #[] #[]] ++ c', w2, hent, ?_, fun _ _ => trivial, ?_, fun e => (by cases e), callsIn_wide.2 ?_⟩
  · have er : resolve a1.eval (rangeCall (.tmp g) (D + 1)) 0 = Deferred.ofValue (a1.eval (.tmp g)) #[.func (.yield (D + 1)) #[] #[]] := by simp [resolve, rangeCall, Act.eval]
    rw [er, hc]
    simp [Deferred.ofValue]
  · simpa [invoke] using hcall
  -- the heap at the loop's head
  have hsz : w2.heap.size = D + 2 := by rw [hw2]; simp [hD]
  have hold : ∀ b, b < D → w2.heap[b]? = w1.heap[b]? := fun b hb => by
    rw [hw2]
    show ((w1.heap.push _).push _)[b]? = _
    rw [Array.getElem?_push, if_neg (by simp; omega), Array.getElem?_push, if_neg (by omega)]
  have hdef : w2.heap[D]? = some (.deferred (some [])) := by
    rw [hw2]
    show ((w1.heap.push _).push _)[D]? = _
    rw [Array.getElem?_push, if_neg (by simp; omega), Array.getElem?_push, if_pos (by omega)]
  have hlp : w2.heap[D + 1]? = some (.loop rec0) := by
    rw [hw2]
    show ((w1.heap.push _).push _)[D + 1]? = _
    rw [Array.getElem?_push, if_pos (by simp; omega)]
  have hFBlt : ∀ b, FB b → b < D := fun b hb => by rw [← hD]; exact (s1.frame b hb).1
  have hblt : ∀ b o, w1.heap[b]? = some o → b < D := fun b o e => by rw [← hD]; exact (Array.getElem?_eq_some_iff.1 e).1
  let FB' : Nat → Prop := fun b => FB b ∨ b = D ∨ b = D + 1
  have s2 : Sim P FB' w2 μ1 h1 w2 := by
    refine s1.swap rfl rfl rfl (fun b hb => ⟨?_, rfl⟩) (fun b arr e fz hb => ⟨(hold b (hblt b _ hb)).trans hb, ?_⟩) (fun b es c hb => ⟨(hold b (hblt b _ hb)).trans hb, ?_⟩)
    · rw [hsz]
      rcases hb with hb | hb | hb
      · have := hFBlt b hb; omega
      · omega
      · omega
    · have := hblt b _ hb
      exact ⟨fun x => by rcases x with x | x | x <;> first | exact x | omega, fun x => .inl x⟩
    · have := hblt b _ hb
      exact fun x => by rcases x with x | x | x <;> first | exact x | omega
  -- a record turned
  have turn : ∀ {wa wb : World} {ra : Loop} {rb : Loop} {FBa : Nat → Prop} {ν : Nat → Option Loc} {hh : AH}, Sim P FB' wb ν hh wa → wb.heap[D + 1]? = some (.loop ra) → D + 1 < wb.heap.size → 
      Sim P FB' (wb.putObj (D + 1) (.loop rb)) ν hh (wa.putObj (D + 1) (.loop rb)) := by
    intro wa wb ra rb FBa ν hh sa hra hlt
    have hwa : wa.heap[D + 1]? = some (.loop ra) := (sa.frame (D + 1) (.inr (.inr rfl))).2.trans hra
    have hlta : D + 1 < wa.heap.size := (Array.getElem?_eq_some_iff.1 hwa).1
    refine sa.swap sa.os sa.tape sa.out (fun b hb => ⟨by simpa using (sa.frame b hb).1, ?_⟩) (fun b arr e fz hb => ⟨?_, Iff.rfl⟩) (fun b es c hb => ⟨?_, id⟩)
    · by_cases e : b = D + 1
      · subst e; rw [World.putObj_heap_same hlta, World.putObj_heap_same hlt]
      · rw [World.putObj_heap_other e, World.putObj_heap_other e]; exact (sa.frame b hb).2
    · rw [World.putObj_heap_other (fun e => by rw [e, hwa] at hb; cases hb)]; exact hb
    · rw [World.putObj_heap_other (fun e => by rw [e, hwa] at hb; cases hb)]; exact hb
  have back : ∀ {rb : Loop}, (w2.putObj (D + 1) (.loop rb)).putObj (D + 1) (.loop rec0) = w2 := by
    intro rb
    have : ((w2.heap.setIfInBounds (D + 1) (.loop rb)).setIfInBounds (D + 1) (.loop rec0)) = w2.heap := by
      apply Array.ext_getElem?
      intro i
      by_cases e : i = D + 1
      · subst e
        rw [Array.getElem?_setIfInBounds_self_of_lt (by simp; omega), hlp]
      · rw [Array.getElem?_setIfInBounds_ne (Ne.symm e), Array.getElem?_setIfInBounds_ne (Ne.symm e)]
    simp only [World.putObj, this]
  have hend := q.it FB' w2 μ1 (D + 1) h1 q.j0 (fun k hkm hh hJ => ?_)
  · refine hend μ1 w2 _ _ (Ext.refl _) s2 ?_ (fun v h3 μ3 cv w3 hJm p3 hv => ?_)
    · have l1 : LR μ1 first.toList f'.toList := AR.list ⟨hfs, ef⟩
      have l2 : LR μ1 cap.toList c'.toList := AR.list ⟨hcs, ec⟩
      have l3 : LR μ1 [.func (.yield (D + 1)) #[] #[]] [.func (.yield (D + 1)) #[] #[]] := LR.cons (.func _ _ _ _ _ rfl rfl (fun j a => by simp at a) (fun j a => by simp at a)) (LR.nil _)
      simpa using (l1.append l3).append l2
    · have s3 := p3.sim
      have h3l : w3.heap[D + 1]? = some (.loop rec0) := (s3.frame (D + 1) (.inr (.inr rfl))).2.trans hlp
      have h3d : w3.heap[D]? = some (.deferred (some [])) := (s3.frame D (.inr (.inl rfl))).2.trans hdef
      have h3lt : D + 1 < w3.heap.size := (Array.getElem?_eq_some_iff.1 h3l).1
      refine ⟨none, w3.putObj (D + 1) (.loop { rec0 with state := .exhausted }), ?_, ?_⟩
      · have := run_endLoop (P := P) h3l (by rw [hrec]; simp)
        rw [this, hrec]
      · let FB2 : Nat → Prop := fun b => FB b ∨ b = D
        have s4 : Sim P FB2 w2 μ3 h3 (w3.putObj (D + 1) (.loop { rec0 with state := .exhausted })) := by
          refine s3.swap s3.os s3.tape s3.out (fun b hb => ⟨?_, ?_⟩) (fun b arr e fz hb => ⟨?_, ?_⟩) (fun b es c hb => ⟨?_, ?_⟩)
          · have := (s3.frame b (by rcases hb with x | x; exact .inl x; exact .inr (.inl x))).1
            simpa using this
          · have hne : b ≠ D + 1 := by rcases hb with x | x; (have := hFBlt b x; omega); omega
            rw [World.putObj_heap_other hne]
            exact (s3.frame b (by rcases hb with x | x; exact .inl x; exact .inr (.inl x))).2
          · rw [World.putObj_heap_other (fun e => by rw [e, h3l] at hb; cases hb)]; exact hb
          · have hne : b ≠ D + 1 := fun e => by rw [e, h3l] at hb; cases hb
            exact ⟨fun x => by rcases x with x | x; exact .inl x; exact .inr (.inl x), fun x => by rcases x with x | x | x; exact .inl x; exact .inr x; exact absurd x hne⟩
          · rw [World.putObj_heap_other (fun e => by rw [e, h3l] at hb; cases hb)]; exact hb
          · exact fun x => by rcases x with x | x; exact .inl x; exact .inr (.inl x)
        -- behind the loop
        have hlist := aops_in (ro := none) (n := 0) (rest := []) (Q := Exit.then ((Code.ret).wpIn Fence.wide 0 P (bodyPostM Fence.wide 0 P fn R')) (bodyPostM Fence.wide 0 P fn R')) (q.behind h3 hJm) (fun o ho => List.all_eq_true.1 hnd o ho) (codeOK_ops hokr) s4 (ht1.ext p3.ext) (a := { a1 with defers := [{ target := .collected D, args := #[] }] ++ a1.defers }) (by rw [hd1])
          (fun t5 h5 μ5 a5 w5 hres p5 ht5 hd5 => ?_)
        · rw [List.append_nil] at hlist
          exact wpIn_seq (wpIn_region_list hlist)
        · refine wpIn_ret ?_
          obtain ⟨vs, hR, hvs⟩ := ares_sound hres
          have s5 := p5.sim
          have h5d : w5.heap[D]? = some (.deferred (some [])) := (s5.frame D (.inr rfl)).2.trans hdef
          have h5lt : D < w5.heap.size := (Array.getElem?_eq_some_iff.1 h5d).1
          have s6 : Sim P FB w0 μ5 h5 (w5.putObj D (.deferred none)) := by
            refine s5.swap (s5.os.trans ?_) (s5.tape.trans ?_) (s5.out.trans ?_) (fun b hb => ⟨?_, ?_⟩) (fun b arr e fz hb => ⟨?_, ?_⟩) (fun b es c hb => ⟨?_, ?_⟩)
            · rw [hw2]; exact s1.os
            · rw [hw2]; exact s1.tape
            · rw [hw2]; exact s1.out
            · simpa using (s5.frame b (.inl hb)).1
            · have hlt := hFBlt b hb
              rw [World.putObj_heap_other (by omega)]
              exact ((s5.frame b (.inl hb)).2.trans (hold b hlt)).trans (s1.frame b hb).2
            · rw [World.putObj_heap_other (fun e => by rw [e, h5d] at hb; cases hb)]; exact hb
            · have hne : b ≠ D := fun e => by rw [e, h5d] at hb; cases hb
              exact ⟨fun x => .inl x, fun x => by rcases x with x | x; exact x; exact absurd x hne⟩
            · rw [World.putObj_heap_other (fun e => by rw [e, h5d] at hb; cases hb)]; exact hb
            · exact fun x => .inl x
          obtain ⟨cvs, q1, q2⟩ := hvs FB w0 μ5 a5 _ s6 ht5
          have hrun : (results fn a5.tmps).run P (w5.putObj D (.deferred none)) = .ok (if h : cvs.toArray.size = 1 then cvs.toArray[0] else .tuple cvs.toArray) (w5.putObj D (.deferred none)) := by
            rw [results_eq, Array.mapM_eq_mapM_toList]
            simp only [Sem.run_bind, Sem.run_map, q1, Result.andThen_ok, Sem.run_pure]
          have hR' := hk _ h5 μ5 _ (w5.putObj D (.deferred none)) hR ⟨s6, p1.ext.trans (p3.ext.trans p5.ext), p1.unt.trans (p3.unt.trans p5.unt)⟩ (packed_VR q2)
          show LeavesInM Fence.wide 0 P fn a5.tmps R' a5.defers .returning w5
          rw [hd5]
          exact ⟨by simp, .inl ⟨_, _, rfl, run_takeDeferred h5d, ⟨_, hrun, hR'⟩⟩⟩
  · -- a round
    intro μk wk cargs Rk hx sk la hkk
    have hkl : wk.heap[D + 1]? = some (.loop rec0) := (sk.frame (D + 1) (.inr (.inr rfl))).2.trans hlp
    have hsz1 : cargs.size = 1 := by have : cargs.toList.length = 1 := la.1.symm; simpa using this
    obtain ⟨cv, rfl⟩ : ∃ cv, cargs = #[cv] := ⟨cargs[0], Array.ext (by simpa using hsz1) (fun j h1 h2 => by
      obtain rfl : j = 0 := by omega
      rfl)⟩
    have hv : VR μk (arg k) cv := la.head
    have hpar : rec0.params = #[p] := by rw [hrec]
    have hy := run_yield (P := P) (args := #[cv]) hkl (by rw [hpar]; rfl)
    have hy' : (Instr.yield (D + 1) #[cv]).run P wk = .ok (.round (D + 1) fnid (a1.tmps.setIfInBounds p cv) assign body) wk := by
      rw [hy]
      simp [hrec]
    refine ⟨fnid, _, assign, body, hy', ?_⟩
    have hlr : LR μk (t1.set p (arg k)) (a1.tmps.setIfInBounds p cv).toList := LR.set' (ht1.ext hx) p hv
    have hrd := q.round (D + 1) k hh hkm hJ
    refine roundIn_of_wpIn trivial ?_
    refine hrd FB' w2 μk _ wk _ sk hlr rfl (fun ex t2 h2 μa a2 wa qa pa hta hda => ?_)
    obtain ⟨rfl, qb⟩ := qa
    have sa := pa.sim
    have hal : wa.heap[D + 1]? = some (.loop rec0) := (sa.frame (D + 1) (.inr (.inr rfl))).2.trans hlp
    refine ⟨_, run_beginRound hal (by rw [hrec]), ?_⟩
    have sb := turn (rb := { rec0 with state := .busy }) (FBa := FB) sa hlp (by omega)
    refine qb FB' _ μa a2 _ _ sb hta hda (fun ex t4 h4 μc a4 wc qc pc htc hdc => ?_)
    obtain ⟨rfl, hJ'⟩ := qc
    have sc := pc.sim
    have hbl : (w2.putObj (D + 1) (.loop { rec0 with state := .busy })).heap[D + 1]? = some (.loop { rec0 with state := .busy }) := World.putObj_heap_same (by omega)
    have hcl : wc.heap[D + 1]? = some (.loop { rec0 with state := .busy }) := (sc.frame (D + 1) (.inr (.inr rfl))).2.trans hbl
    have erec : ({ ({ rec0 with state := .busy } : Loop) with state := if (none : Option Code).isNone then .ready else .done, pending := none } : Loop) = rec0 := by rw [hrec]; rfl
    have hrunE := run_endRound (P := P) none hcl
    rw [erec] at hrunE
    have sd := turn (rb := rec0) (FBa := FB) sc hbl (by simp; omega)
    rw [back] at sd
    exact ⟨_, _, hrunE, hkk _ h4 μc _ _ ⟨rfl, hJ'⟩ ⟨sd, pa.ext.trans pc.ext, pa.unt.trans pc.unt⟩ (.plain _ rfl)⟩
end Go.Sim
/- A range over a function: the walk's words. Conditions: those that each theorem names. -/
set_option linter.unusedVariables false
set_option linter.unusedSimpArgs false
namespace Go.Sim
open Go
variable {P : Program} {FB : Nat → Prop} {w0 : World} {μ0 : Nat → Option Loc} {h : AH}
def ff : Exit → List Value → AH → Prop := fun _ _ _ => False
/-- The walk of an iterator's code. -/
def wpx (P : Program) (FB : Nat → Prop) (w0 : World) (μ0 : Nat → Option Loc) : Code → (Exit → List Value → AH → Prop) → List Value → AH → Prop
  | .skip, Q, t, h => Q .normal t h
  | .region id ops draw, Q, t, h => WX P FB w0 μ0 (.region id ops draw) Q t h
  | .seq a b, Q, t, h => wpx P FB w0 μ0 a (thn (wpx P FB w0 μ0 b Q) Q) t h
  | .cond c a b, Q, t, h => onB (aev t c) (fun x => bcase x (wpx P FB w0 μ0 a Q t h) (wpx P FB w0 μ0 b Q t h)) False
  | .block id c, Q, t, h => wpx P FB w0 μ0 c (blk id Q) t h
  | .exit id, Q, t, h => Q (.exit id) t h
  | .ret, Q, t, h => Q .ret t h
  | .loop c, Q, t, h => WX P FB w0 μ0 (.loop c) Q t h
  | _, _, _, _ => False
theorem wpx_sound : ∀ {c : Code} {Q : Exit → List Value → AH → Prop} {t : List Value} {h : AH}, codeOK P.globals.size c = true → wpx P FB w0 μ0 c Q t h → WX P FB w0 μ0 c Q t h
  | .skip, Q, t, h, _, hw => fun μ a w Q' hx s ht hd hq => wp_skip (hq .normal t h μ a w hw s.post ht hd)
  | .exit id, Q, t, h, _, hw => fun μ a w Q' hx s ht hd hq => wp_exit (hq (.exit id) t h μ a w hw s.post ht hd)
  | .ret, Q, t, h, _, hw => fun μ a w Q' hx s ht hd hq => wp_ret (hq .ret t h μ a w hw s.post ht hd)
  | .loop c, Q, t, h, _, hw => hw
  | .region id ops d, Q, t, h, _, hw => hw
  | .seq a b, Q, t, h, hok, hw => by
    simp only [codeOK, Bool.and_eq_true] at hok
    exact WX.seq ((wpx_sound hok.1 hw).mono (fun ex t1 h1 q => by cases ex <;> first | exact q | exact wpx_sound hok.2 q))
  | .cond c x y, Q, t, h, hok, hw => by
    simp only [codeOK, Bool.and_eq_true] at hok
    unfold wpx onB at hw
    split at hw
    · rename_i b hb
      intro μ act w Q' hx s ht hd hq
      have hv := aev_VR s ht hok.1.1
      rw [hb] at hv
      refine wp_cond hv.bool ?_
      cases b with
      | true => exact wpx_sound hok.1.2 (hw.1 rfl) μ act w Q' hx s ht hd hq
      | false => exact wpx_sound hok.2 (hw.2 rfl) μ act w Q' hx s ht hd hq
    · exact hw.elim
  | .block id c, Q, t, h, hok, hw => WX.block ((wpx_sound (c := c) hok hw).mono (fun ex t1 h1 q => by cases ex <;> exact q))
  | .label _, Q, t, h, _, hw => hw.elim
  | .scope _, Q, t, h, _, hw => hw.elim
  | .goto _, Q, t, h, hok, hw => hw.elim
  | .refuse _, Q, t, h, hok, hw => hw.elim
  | .rangeFunc .., Q, t, h, hok, hw => hw.elim
theorem wpx_seq (a b : Code) (Q : Exit → List Value → AH → Prop) (t : List Value) : wpx P FB w0 μ0 (.seq a b) Q t h = wpx P FB w0 μ0 a (thn (wpx P FB w0 μ0 b Q) Q) t h := rfl
theorem wpx_skip (Q : Exit → List Value → AH → Prop) (t : List Value) : wpx P FB w0 μ0 .skip Q t h = Q .normal t h := rfl
theorem wpx_ret (Q : Exit → List Value → AH → Prop) (t : List Value) : wpx P FB w0 μ0 .ret Q t h = Q .ret t h := rfl
theorem wpx_exit (i : Nat) (Q : Exit → List Value → AH → Prop) (t : List Value) : wpx P FB w0 μ0 (.exit i) Q t h = Q (.exit i) t h := rfl
theorem wpx_region (id : Nat) (ops : Array Oper) (d : Bool) (Q : Exit → List Value → AH → Prop) (t : List Value) : wpx P FB w0 μ0 (.region id ops d) Q t h = WX P FB w0 μ0 (.region id ops d) Q t h := rfl
theorem wpx_loop (c : Code) (Q : Exit → List Value → AH → Prop) (t : List Value) : wpx P FB w0 μ0 (.loop c) Q t h = WX P FB w0 μ0 (.loop c) Q t h := rfl
theorem wpx_block (id : Nat) (c : Code) (Q : Exit → List Value → AH → Prop) (t : List Value) : wpx P FB w0 μ0 (.block id c) Q t h = wpx P FB w0 μ0 c (blk id Q) t h := rfl
theorem wpx_cond (c : Operand) (a b : Code) (Q : Exit → List Value → AH → Prop) (t : List Value) : wpx P FB w0 μ0 (.cond c a b) Q t h = onB (aev t c) (fun x => bcase x (wpx P FB w0 μ0 a Q t h) (wpx P FB w0 μ0 b Q t h)) False := rfl
@[congr] theorem wpx_congr {tk : Prop} (_ : tick = tk) {c : Code} {Q : Exit → List Value → AH → Prop} {t t2 : List Value} {h h2 : AH} (et : t = t2) (eh : h = h2) : wpx P FB w0 μ0 c Q t h = wpx P FB w0 μ0 c Q t2 h2 := by subst et; subst eh; rfl
@[congr] theorem WX_congr {tk : Prop} (_ : tick = tk) {c : Code} {Q : Exit → List Value → AH → Prop} {t t2 : List Value} {h h2 : AH} (et : t = t2) (eh : h = h2) : WX P FB w0 μ0 c Q t h = WX P FB w0 μ0 c Q t2 h2 := by subst et; subst eh; rfl
@[congr] theorem WR_congr {tk : Prop} (_ : tick = tk) {l : Nat} {c : Code} {Q : Exit → List Value → AH → Prop} {t t2 : List Value} {h h2 : AH} (et : t = t2) (eh : h = h2) : WR P l c Q t h = WR P l c Q t2 h2 := by subst et; subst eh; rfl
@[congr] theorem WF_congr {tk : Prop} (_ : tick = tk) {fn : Func} {R : Value → AH → Prop} {c : Code} {t t2 : List Value} {h h2 : AH} (et : t = t2) (eh : h = h2) : WF P fn R c t h = WF P fn R c t2 h2 := by subst et; subst eh; rfl
@[congr] theorem YX_congr {tk : Prop} (_ : tick = tk) {l : Nat} {a a2 : List Value} {h h2 : AH} {R : Value → AH → Prop} (ea : a = a2) (eh : h = h2) : YX P FB w0 μ0 l a h R = YX P FB w0 μ0 l a2 h2 R := by subst ea; subst eh; rfl
attribute [push_cast] wpx_seq wpx_skip wpx_ret wpx_exit wpx_region wpx_loop wpx_block wpx_cond
theorem WX.reg {id : Nat} {l : List Oper} {t : List Value} {Q : Exit → List Value → AH → Prop} (hok : codeOK P.globals.size (.region id l.toArray false) = true) (hk : aops P (dsts l) l t h (Q .normal)) : WX P FB w0 μ0 (.region id l.toArray false) Q t h :=
  (wc_region hok hk).x
theorem WX.yieldK {id : Nat} {l : List Oper} (k : Nat) {o : Oper} {g x : Tmp} {ats : Array TypeId} {lb : Nat} {Q : Exit → List Value → AH → Prop} {t : List Value}
    (hok : codeOK P.globals.size (.region id l.toArray false) = true) (hnd : l.all ndo = true) (hk : k < l.length) (hl : l[k]? = some o) (ho : o.op = .call { callee := .value (.tmp g), args := #[.tmp x], argTypes := ats }) (hg : o.guard = none)
    (hw : aops P (dsts l) (l.take k) t h fun t1 h1 => t1.getD g undef = .func (.yield lb) #[] #[] ∧
      YX P FB w0 μ0 lb [t1.getD x undef] h1 fun v h2 => aops P (dsts l) (l.drop (k + 1)) (put t1 o.dst v) h2 (Q .normal)) : WX P FB w0 μ0 (.region id l.toArray false) Q t h := by
  refine WX.yield (ops := l.toArray) (pre := l.take k) (rest := l.drop (k + 1)) (o := o) hok hnd ?_ ho hg hw
  have : l = l.take k ++ l.drop k := (List.take_append_drop k l).symm
  rw [List.drop_eq_getElem_cons hk] at this
  rw [List.getElem?_eq_getElem hk] at hl
  rw [Option.some.inj hl] at this
  exact this
theorem WX.loopA {α : Type} {c : Code} {Q : Exit → List Value → AH → Prop} {t : List Value} (hok : codeOK P.globals.size c = true) (V D : List Nat) (vals : α → List Value) (J : α → AH → Prop) (m : α → Nat) (a0 : α)
    (e0 : t = setF (setL t V (vals a0)) (fun j => t.getD j undef) D) (h0 : J a0 h)
    (round : ∀ a g h', J a h' → wpx P FB w0 μ0 c (thn (fun t' h'' => ∃ b, t' = setF (setL t V (vals b)) (fun j => t'.getD j undef) D ∧ J b h'' ∧ m b < m a) Q) (setF (setL t V (vals a)) g D) h') : WX P FB w0 μ0 (.loop c) Q t h := by
  intro μ act w Q' hx s ht hd hq
  have key : ∀ (k : Nat) (a : α) (g : Nat → Value) (h : AH) (μ : Nat → Option Loc) (act : Act) (w : World), m a < k → J a h → Ext μ0 μ → Sim P FB w0 μ h w → LR μ (setF (setL t V (vals a)) g D) act.tmps.toList → act.defers = [] →
      (∀ ex t' h' μ' a' w', Q ex t' h' → Post P FB w0 μ h μ' h' w' → LR μ' t' a'.tmps.toList → a'.defers = [] → Q' ex a' w') → Code.rounds P c Q' k act w := by
    intro k
    induction k with
    | zero => intro a g h μ act w hk; omega
    | succ k ih =>
      intro a g h μ act w hk hj hx s ht hd hq
      rw [rounds_succ]
      refine wpx_sound hok (round a g h hj) μ act w _ hx s ht hd (fun ex t1 h1 μ1 a1 w1 q1 p1 ht1 hd1 => ?_)
      cases ex with
      | normal =>
        obtain ⟨b, e1, j1, m1⟩ := q1
        rw [e1] at ht1
        exact ih b _ h1 μ1 a1 w1 (by omega) j1 (hx.trans p1.ext) p1.sim ht1 hd1 (fun ex t2 h2 μ2 a2 w2 q2 p2 ht2 hd2 => hq ex t2 h2 μ2 a2 w2 q2 (p1.trans p2) ht2 hd2)
      | _ => exact hq _ t1 h1 μ1 a1 w1 q1 p1 ht1 hd1
  exact wp_loop_rounds (m a0 + 1) (key (m a0 + 1) a0 _ h μ act w (by omega) h0 hx s (e0 ▸ ht) hd hq)
theorem CX.ofN {f : FuncId} {fn : Func} {c : Code} {args : List Value} {R : Value → AH → Prop} {n : Nat} {rs : Array ResultVar} (hf : P.funcs[f]? = some fn) (hn : fn.ntmps = n) (hr : fn.results = rs) (hb : fn.body = some c)
    (hok : codeOK P.globals.size c = true) (hw : wpx P FB w0 μ0 c (bodyQ P rs.toList R) (toN (args ++ List.replicate (n - args.length) undef)) h) : CX P FB w0 μ0 f args h R := by
  subst hn hr
  rw [toN_eq] at hw
  exact CX.of hf hb (wpx_sound hok hw)
theorem CE.ofFN {f : FuncId} {fn : Func} {c : Code} {args : List Value} {R : Value → AH → Prop} {n : Nat} (hf : P.funcs[f]? = some fn) (hn : fn.ntmps = n) (hb : fn.body = some c)
    (hw : WF P fn R c (toN (args ++ List.replicate (n - args.length) undef)) h) : CE P f args h R := by
  subst hn
  rw [toN_eq] at hw
  exact CE.ofF hf hb hw
theorem WF.step {fn : Func} {R : Value → AH → Prop} {A C : Code} {t : List Value} (hok : codeOK P.globals.size A = true) (hA : wpc P A (thn (WF P fn R C) ff) t h) : WF P fn R (.seq A C) t h :=
  WF.seq ((wpc_sound hok hA).mono (fun ex t1 h1 q => by cases ex <;> first | exact ⟨rfl, q⟩ | exact q.elim))
/-! ### rounds -/
theorem WR.mono {l : Nat} {c : Code} {Q Q1 : Exit → List Value → AH → Prop} {t : List Value} (hw : WR P l c Q1 t h) (hm : ∀ ex t h, Q1 ex t h → Q ex t h) : WR P l c Q t h :=
  fun FB w0 μ a w Q' s ht hd hq => hw FB w0 μ a w Q' s ht hd (fun ex t' h' μ' a' w' q => hq ex t' h' μ' a' w' (hm ex t' h' q))
theorem WR.reg {l id : Nat} {ops : List Oper} {t : List Value} {Q : Exit → List Value → AH → Prop} (hok : codeOK P.globals.size (.region id ops.toArray false) = true) (hnd : ops.all ndo = true) (hk : aops P (dsts ops) ops t h (Q .normal)) : WR P l (.region id ops.toArray false) Q t h :=
  WR.region hok hnd hk
theorem WR.draw' {l id : Nat} {ops : List Oper} {t : List Value} {Q : Exit → List Value → AH → Prop} (hm : P.follows .mixedOrders = true) (hok : codeOK P.globals.size (.region id ops.toArray true) = true) (hnd : ops.all ndo = true) (p : Plan)
    (hp : planOK ops.toArray ops.toArray.size p (Array.replicate ops.toArray.size false) = true) (hw : walk P ops (dsts ops) p [] t h (Q .normal)) : WR P l (.region id ops.toArray true) Q t h := WR.draw hm hok hnd p hp hw
theorem WR.blkR {l id : Nat} {c : Code} {t : List Value} {Q : Exit → List Value → AH → Prop} (hw : WR P l c (blk id Q) t h) : WR P l (.block id c) Q t h :=
  WR.block (hw.mono (fun ex t1 h1 q => by cases ex <;> exact q))
/-- A loop over an iterator, at its head. -/
structure LoopC (P : Program) (rs : List ResultVar) (R : Value → AH → Prop) (g p : Tmp) (assign body : Code) (l : List Oper) (fi : FuncId) (first cap : Array Value) (arg : Nat → Value) (m : Nat) (J : Nat → AH → Prop) (t : List Value) (h : AH) : Prop where
  fv : t.getD g undef = .func (.func fi) first cap
  cb : callB P fi = true
  j0 : J 0 h
  it : Iter P fi first cap arg m J
  round : ∀ lb k h, k < m → J k h → WR P lb assign (thn (WR P lb body (thn (fun _ => J (k + 1)) ff)) ff) (t.set p (arg k)) h
  behind : ∀ h', J m h' → aops P (dsts l) l t h' fun t3 h3 => ares P h3 t3 rs fun vs => R (packed vs) h3
def LoopX (P : Program) (rs : List ResultVar) (R : Value → AH → Prop) (g p : Tmp) (assign body : Code) (l : List Oper) (t : List Value) (h : AH) : Prop :=
  ∃ fi first cap arg m J, LoopC P rs R g p assign body l fi first cap arg m J t h
@[congr] theorem LoopX_congr {tk : Prop} (_ : tick = tk) {rs : List ResultVar} {R : Value → AH → Prop} {g p : Tmp} {assign body : Code} {l : List Oper} {t t2 : List Value} {h h2 : AH} (et : t = t2) (eh : h = h2) : LoopX P rs R g p assign body l t h = LoopX P rs R g p assign body l t2 h2 := by subst et; subst eh; rfl
theorem WF.rangeN {fn : Func} {R : Value → AH → Prop} {A assign body : Code} {idb idr : Nat} {g p : Tmp} {l : List Oper} {rs : Array ResultVar} {t : List Value} (hokA : codeOK P.globals.size A = true) (hokr : codeOK P.globals.size (.region idr l.toArray false) = true) (hnd : l.all ndo = true) (hr : fn.results = rs)
    (hA : wpc P A (thn (LoopX P rs.toList R g p assign body l) ff) t h) :
    WF P fn R (.seq (.seq A (.block idb (.rangeFunc (.tmp g) #[p] assign body))) (.seq (.region idr l.toArray false) .ret)) t h := by
  subst hr
  refine WF.range hokr hnd ((wpc_sound hokA hA).mono (fun ex t1 h1 q => ?_))
  cases ex with
  | normal =>
    obtain ⟨fi, first, cap, arg, m, J, q⟩ := q
    refine ⟨rfl, fi, first, cap, arg, m, J, q.fv, q.cb, q.j0, q.it, fun lb k h hk hj => (q.round lb k h hk hj).mono (fun ex t2 h2 q2 => ?_), q.behind⟩
    cases ex with
    | normal => exact ⟨rfl, WR.mono q2 (fun ex t3 h3 q3 => by cases ex <;> first | exact ⟨rfl, q3⟩ | exact q3.elim)⟩
    | _ => exact q2.elim
  | _ => exact q.elim
end Go.Sim
