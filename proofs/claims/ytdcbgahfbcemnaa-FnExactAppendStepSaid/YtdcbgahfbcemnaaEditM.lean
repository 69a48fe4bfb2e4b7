/-
  This file proves contracts of the laws' own functions on texts and edit steps: the text that marks a number; the bound on the sizes.
  Conditions: that the number is not too great; that no text is longer than any string of the machine.
-/
import Derived.Test.YtdcbgahfbcemnaaEditStepS
import Derived.Laws.BytesArg
namespace Go.Proofs.Ytdcbgahfbcemnaa
open Go.RowKit
set_option linter.unusedSimpArgs false
set_option linter.unusedVariables false

def dg (k : Nat) : ByteArray := strOfNums [48 + (k : Int) % 10]
theorem dg_size (k : Nat) : (dg k).size = 1 := strOfNums_size _
def digs : Nat → Nat → ByteArray → ByteArray
  | 0, _, out => out
  | f + 1, k, out => if k = 0 then out else digs f (k / 10) (dg k ++ out)
theorem digs_zero (f : Nat) (out : ByteArray) : digs f 0 out = out := by
  cases f with
  | zero => rfl
  | succ f => rw [digs, if_pos rfl]
theorem digs_succ {f k : Nat} (out : ByteArray) (h : 0 < k) : digs (f + 1) k out = digs f (k / 10) (dg k ++ out) := by rw [digs, if_neg (by omega)]
theorem digs_size (f : Nat) : ∀ (k : Nat) (out : ByteArray), (digs f k out).size ≤ out.size + f := by
  induction f with
  | zero => intro k out; simp [digs]
  | succ f ih =>
    intro k out
    rw [digs]
    split
    · omega
    · have := ih (k / 10) (dg k ++ out)
      rw [ByteArray.size_append, dg_size] at this
      omega
def emptyB : ByteArray := ⟨#[]⟩
/-- The text that marks a number. -/
def markT (k : Int) : ByteArray := if k ≤ 0 then ⟨#[109, 48]⟩ else ⟨#[109]⟩ ++ digs 20 k.toNat ⟨#[]⟩
theorem markT_size (k : Int) : (markT k).size ≤ 21 := by
  unfold markT
  split
  · show 2 ≤ 21; omega
  · have := digs_size 20 k.toNat ⟨#[]⟩
    rw [ByteArray.size_append]
    have e1 : (⟨#[109]⟩ : ByteArray).size = 1 := rfl
    have e2 : (⟨#[]⟩ : ByteArray).size = 0 := rfl
    omega
theorem u8_in {n : Int} (h1 : 0 ≤ n) (h2 : n ≤ 255) : IntKind.u8.wrap n = n := by
  unfold IntKind.wrap
  simp [IntKind.bits, IntKind.signed]
  omega

theorem cell_one {W : World} {b : Nat} {x : Int} (hc : W.cell? ⟨b, 0, none⟩ = some (.int .u8 x)) : ∀ i, i < 1 → W.cell? ⟨b, 0 + i, none⟩ = some (.int .u8 ([x].getD i 0)) := by
  intro i hi
  obtain rfl : i = 0 := by omega
  simpa using hc

set_option maxHeartbeats 2000000 in
set_option maxRecDepth 100000 in
theorem markText_any (k : Int) (w : World) (h1 : k ≤ 1000000000000000) : Calls Try.prog 51 #[.int .i64 k] w fun e w' => e = .returned (.string (markT k)) ∧ Below w.heap.size w w' := by
  by_cases hk : k ≤ 0
  · have HM := Lib.hid (show markT k = ⟨#[109, 48]⟩ from if_pos hk)
    go_enter Try.func51, Try.ntmps51
    go_wp2_with fail
    go_ret
    exact ⟨by rw [HM.out]; rfl, Below.refl _ _⟩
  obtain ⟨n, rfl⟩ : ∃ n : Nat, k = (n : Int) := ⟨k.toNat, by omega⟩
  have HM := Lib.hid (show markT (n : Int) = ⟨#[109]⟩ ++ digs 20 n ⟨#[]⟩ from by unfold markT; rw [if_neg hk]; rfl)
  have hn0 : n < 10 ^ 20 := by have : (10 : Nat) ^ 20 = 100000000000000000000 := by decide
                               omega
  have HN0 := Lib.hid hn0
  clear hn0
  go_enter Try.func51, Try.ntmps51
  go_wp2_with fail
  go_loopw [0, 3] (fun kv ov wr => ∃ (fu m : Nat) (out : ByteArray), kv = .int .i64 (m : Nat) ∧ ov = .string out ∧ m ≤ 1000000000000000 ∧ fu ≤ 20 ∧ out.size + fu ≤ 20 ∧ m < 10 ^ fu ∧ digs fu m out = digs 20 n ⟨#[]⟩ ∧ Below w.heap.size w wr) (fun kv _ _ => (intOf kv).toNat)
  case atStart => exact ⟨20, n, ⟨#[]⟩, rfl, rfl, by omega, Nat.le_refl _, Nat.le_refl _, HN0.out, rfl, Below.refl _ _⟩
  case round => as_aux_lemma =>
    obtain ⟨fu, m, out, rfl, rfl, hm, hf, hs, hp, hd, hb⟩ := hrel
    have HD := Lib.hid hd
    clear hd
    by_cases h0 : 0 < m
    rotate_left
    · obtain rfl : m = 0 := by omega
      have HE := HD.out
      rw [digs_zero] at HE
      have HE2 := Lib.hid HE
      have hsz : out.size ≤ 20 := by omega
      clear HE hp hs
      go_wp2_with fail
      go_ret
      exact ⟨by rw [HM.out, ← HE2.out]; rfl, hb⟩
    obtain ⟨fv, rfl⟩ : ∃ fv, fu = fv + 1 := by
      cases fu with
      | zero => simp at hp; omega
      | succ fv => exact ⟨fv, rfl⟩
    have HDS := Lib.hid ((digs_succ (f := fv) out h0).symm.trans HD.out)
    have hq : m / 10 < 10 ^ fv := by rw [Nat.pow_succ] at hp; omega
    have HQ := Lib.hid hq
    have q1 : (0 : Int) < (m : Int) := by omega
    have q2 : IntKind.u8.wrap (48 + (m : Int) % 10) = 48 + (m : Int) % 10 := u8_in (by omega) (by omega)
    have hsd := dg_size m
    unfold dg at hsd
    have hsz : out.size ≤ 20 := by omega
    have r1 := fun (W : World) (hc : W.cell? ⟨wr.heap.size, 0, none⟩ = some (.int .u8 (48 + (m : Int) % 10))) => run_convert_bytes_arg (P := Try.prog) W 72 5 Try.underlying72 Try.underlying5 wr.heap.size 0 1 1 [48 + (m : Int) % 10] rfl (cell_one hc) 9 Try.underlying9
    have r2 := r1 (wr.alloc (.cells #[.int .u8 (48 + (m : Int) % 10)] 5)) (by rw [cell_of_row _ _ _ _ _ (0, 0) (heap_alloc_new wr _)]; rfl)
    clear r1 hq hp
    have hb2 := hb.trans ((below_alloc1 wr (.cells #[.int .u8 (48 + (m : Int) % 10)] 5)).mono hb.size)
    go_wp2_with fail
    go_roundw
    case rel => exact ⟨fv, m / 10, dg m ++ out, by first | go_num | rfl, rfl, by omega, by omega, by rw [ByteArray.size_append, dg_size]; omega, HQ.out, HDS.out, hb2⟩
    case measure => simp [intOf]; omega

def szOne (t : Int) (p : GEditStep) : Int := if t - (p.rs.size : Int) < 0 then -1 else t - (p.rs.size : Int)
theorem szEditStep_any (p : GEditStep) (t : Int) (w : World) (h0 : 0 ≤ t) (h1 : t ≤ 1048576) (hs : p.rs.size ≤ maxLen) :
    Calls Try.prog 25 #[.agg #[.int .i64 p.kd, .int .i64 p.mr, .int .i64 p.sh, .string p.rs], .int .i64 t] w fun e w' => e = .returned (.int .i64 (szOne t p)) ∧ Below w.heap.size w w' := by
  unfold maxLen at hs
  have q1 : IntKind.i64.wrap (t - (p.rs.size : Int)) = t - (p.rs.size : Int) := IntWalk.i64_in _ ⟨by omega, by omega⟩
  by_cases h : t - (p.rs.size : Int) < 0
  · have HE := Lib.hid (show szOne t p = -1 from if_pos h)
    go_enter Try.func25, Try.ntmps25
    go_wp2_with fail
    go_ret
    exact ⟨by rw [HE.out]; rfl, by go_grown⟩
  · have HE := Lib.hid (show szOne t p = t - (p.rs.size : Int) from if_neg h)
    go_enter Try.func25, Try.ntmps25
    go_wp2_with fail
    go_ret
    exact ⟨by rw [HE.out]; rfl, by go_grown⟩
theorem szOne_le {t : Int} {p : GEditStep} (h : t ≤ 1048576) : szOne t p ≤ 1048576 := by unfold szOne; split <;> omega

/-- The bound on a list of steps: less than 0, or the list is short. -/
def SzP (n : Nat) (w : World) (e : Ending) (w' : World) : Prop := ∃ v : Int, e = .returned (.int .i64 v) ∧ (v < 0 ∨ (0 ≤ v ∧ v ≤ 1048576 ∧ n ≤ 1048576)) ∧ Below w.heap.size w w'
set_option maxHeartbeats 2000000 in
set_option maxRecDepth 100000 in
theorem szEditStepS_any {A : Option Addr} {c lo hi : Nat} {ps : List GEditStep} {w : World} (hr : RdE w lo hi A ps) (hh : hi ≤ w.heap.size) (hl : ps.length ≤ 9223372036854775807) (hs : ∀ p ∈ ps, p.rs.size ≤ maxLen) :
    Calls Try.prog 12 #[.slice A ps.length c, .int .i64 1048576] w (SzP ps.length w) := by
  have q : IntKind.i64.wrap (1048576 - (ps.length : Int)) = 1048576 - (ps.length : Int) := IntWalk.i64_in _ ⟨by omega, by omega⟩
  have HS := Lib.hid hs
  clear hs
  by_cases h : (1048576 - (ps.length : Int)) < 0
  · go_enter Try.func12, Try.ntmps12
    go_wp2_with fail
    go_ret
    exact ⟨-1, rfl, .inl (by omega), Below.refl _ _⟩
  go_enter Try.func12, Try.ntmps12
  go_wp2_with fail
  go_loopw [1, 5] (fun t i wr => ∃ (j : Nat) (v : Int), j ≤ ps.length ∧ i = .int .i64 j ∧ t = .int .i64 v ∧ 0 ≤ v ∧ v ≤ 1048576 ∧ Below w.heap.size w wr) (fun _ i _ => ps.length - (intOf i).toNat)
  case atStart => exact ⟨0, 1048576 - (ps.length : Int), Nat.zero_le _, rfl, rfl, by omega, by omega, Below.refl _ _⟩
  case round =>
    clear q
    obtain ⟨j, v, hj, rfl, rfl, hv0, hv1, hb⟩ := hrel
    by_cases hlt : j < ps.length
    · obtain ⟨b, off, p, rfl, _, _, hp, c0, c1, c2, c3⟩ := (hr.below hb hh).getEditStep hlt
      have hps := HS.out p (List.mem_of_getElem? hp)
      have q1 : (j : Int) < (ps.length : Int) := by omega
      have hz := szOne_le (p := p) hv1
      clear hp
      go_wp2_with fail
      refine (szEditStep_any p v _ hv0 hv1 hps).mono ?_
      rintro e w2 ⟨rfl, B2⟩
      have hb2 := hb.trans (B2.mono hb.size)
      generalize szOne v p = v2 at hz
      by_cases hn : v2 < 0
      · go_wp2_with fail
        go_ret
        exact ⟨-1, rfl, .inl (by omega), hb2⟩
      · go_wp2_with fail
        go_roundw
        case rel => exact ⟨j + 1, v2, by omega, by go_num, rfl, by omega, hz, hb2⟩
        case measure => simp [intOf]; omega
    · go_wp2_with fail
      go_ret
      exact ⟨v, rfl, .inr ⟨hv0, hv1, by omega⟩, hb⟩

end Go.Proofs.Ytdcbgahfbcemnaa
