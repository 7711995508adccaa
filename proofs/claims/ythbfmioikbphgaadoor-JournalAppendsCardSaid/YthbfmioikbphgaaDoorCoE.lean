/- The codec: what the reader's methods take and varint return, or with what they panic. -/
import Derived.Test.YthbfmioikbphgaaDoorCoD
namespace Go.Proofs.YthbfmioikbphgaaDoor
set_option maxRecDepth 100000
open Go.RowKit

theorem gb_refl (w : World) (g : Option Nat) : w.grownBy w g := World.grownBy.refl w g
theorem gb_trans {w w1 w2 : World} {g : Option Nat} (h : w.grownBy w1 g) (k : w1.grownBy w2 g) : w.grownBy w2 g :=
  ⟨k.os.trans h.os, k.tape.trans h.tape, k.output.trans h.output, Nat.le_trans h.size k.size, fun i hi hne => (k.block i (Nat.lt_of_lt_of_le hi h.size) hne).trans (h.block i hi hne)⟩
theorem gb_below {w w' : World} {g : Option Nat} (hb : Below w.heap.size w w') : w.grownBy w' g := ⟨hb.os, hb.tape, hb.output, hb.size, fun i hi _ => hb.block i hi⟩
theorem gb_set (w : World) (g o : Nat) (v : Value) : w.grownBy (w.setCell ⟨g, o, none⟩ v) (some g) :=
  ⟨rfl, rfl, rfl, by simp, fun k _ hk => heap_setCell_other w ⟨g, o, none⟩ k v (fun e => hk (by simp [e]))⟩

theorem bodyPost_pan {P : Program} {fn : Func} {R : Ending → World → Prop} {a : Act} {w : World} {c : List PanicEntry} (hd : a.defers = []) (hR : R (.panicked c) w) : bodyPost P fn R (.panic c) a w := ⟨hd, hR⟩
/-- the panic of 'fail' -/
def fl (e : Int) : List PanicEntry := [{ v := .iface 93 (.int .i64 e), recovered := false }]
theorem fail_any (e : Int) (w : World) : Calls Tryd.prog 73 #[.int .i64 e] w fun x w' => x = .panicked (fl e) ∧ w = w' := by
  go_enter Tryd.func73, Tryd.ntmps73
  go_wp2_with fail
  exact bodyPost_pan rfl ⟨rfl, rfl⟩

/-- a reader in block rb whose bytes are bs and of which l is still to be read; en is the error behind the end -/
def Rd (w : World) (rb : Nat) (bs : List UInt8) (en : Int) (l : List UInt8) : Prop :=
  ∃ a len cap pos, bs.drop pos = l ∧ pos + l.length = len ∧ Bytes w a len cap bs ∧ Under a len rb ∧ w.cell? ⟨rb, 0, none⟩ = some (.slice a len cap) ∧ w.cell? ⟨rb, 1, none⟩ = some (.int .i64 (pos : Int)) ∧ w.cell? ⟨rb, 2, none⟩ = some (.int .i64 en) ∧ w.frozen? ⟨rb, 1, none⟩ = false ∧ rb < w.heap.size
theorem Rd.keep {w w' : World} {rb : Nat} {bs l : List UInt8} {en : Int} (h : Rd w rb bs en l) (hb : Below w.heap.size w w') : Rd w' rb bs en l := by
  obtain ⟨a, len, cap, pos, h1, h2, h3, h4, h5, h6, h7, h8, h9⟩ := h
  exact ⟨a, len, cap, pos, h1, h2, h3.below hb, h4, bc hb h9 h5, bc hb h9 h6, bc hb h9 h7, bf hb h9 h8, bl hb h9⟩
theorem Bytes.by {w w' : World} {g : Nat} {a : Option Addr} {len cap : Nat} {xs : List UInt8} (h : Bytes w a len cap xs) (hg : w.grownBy w' (some g)) (hne : len = 0 ∨ ∀ x, a = some x → x.block ≠ g) : Bytes w' a len cap xs := by
  obtain ⟨h1, h2, h3, h4, h5⟩ := h
  refine ⟨h1, h2, h3, h4, ?_⟩
  rcases h5 with h5 | ⟨b, off, rfl, hlt, hc⟩
  · exact .inl h5
  rcases hne with hne | hne
  · exact .inl hne
  · refine .inr ⟨b, off, rfl, Nat.lt_of_lt_of_le hlt hg.size, fun i hi => ?_⟩
    rw [← hc i hi]
    have := hg.block b hlt (by have := hne _ rfl; simpa using this)
    simp only [World.cell?, this]

theorem Bytes.sub {w : World} {a : Option Addr} {len cap : Nat} {bs : List UInt8} (h : Bytes w a len cap bs) (pos n : Nat) (hn : pos + n ≤ len) : Bytes w (if cap = pos then a else Option.map (fun x => x.add pos) a) n (cap - pos) ((bs.drop pos).take n) := by
  have hc := h.2
  by_cases hp : cap = pos
  · rw [if_pos hp]
    have hlc := hc.1
    obtain rfl : n = 0 := by omega
    exact ⟨by simp, by omega, by have := hc.2.1; omega, fun _ => by omega, .inl rfl⟩
  · rw [if_neg hp]
    rcases hc.2.2.2 with h0 | ⟨b, off, rfl, hlt, hcc⟩
    · have hlc := hc.1
      obtain rfl : n = 0 := by omega
      refine ⟨by simp, by omega, by have := hc.2.1; omega, fun hnone => ?_, .inl rfl⟩
      cases a with
      | none => have := hc.2.2.1 rfl; omega
      | some x => simp at hnone
    · have h1 := h.suf pos (by omega)
      have h2 := h1.pre n (by omega)
      simpa [addr_add] using h2
theorem Rd.by {w w' : World} {rb g : Nat} {bs l : List UInt8} {en : Int} (h : Rd w rb bs en l) (hg : w.grownBy w' (some g)) (hlt : rb < g) : Rd w' rb bs en l := by
  obtain ⟨a, len, cap, pos, h1, h2, h3, h4, h5, h6, h7, h8, h9⟩ := h
  have hb := hg.block rb h9 (by simpa using Nat.ne_of_lt hlt)
  have hc : ∀ o, w'.cell? ⟨rb, o, none⟩ = w.cell? ⟨rb, o, none⟩ := fun o => by simp only [World.cell?, hb]
  have hf : w'.frozen? ⟨rb, 1, none⟩ = w.frozen? ⟨rb, 1, none⟩ := by simp only [World.frozen?, hb]
  exact ⟨a, len, cap, pos, h1, h2, h3.by hg (h4.imp_right fun h x hx => by have := h x hx; omega), h4, (hc 0).trans h5, (hc 1).trans h6, (hc 2).trans h7, hf.trans h8, Nat.lt_of_lt_of_le h9 hg.size⟩
theorem Rd.lt {w : World} {rb : Nat} {bs l : List UInt8} {en : Int} (h : Rd w rb bs en l) : rb < w.heap.size := by
  obtain ⟨a, len, cap, pos, h1, h2, h3, h4, h5, h6, h7, h8, h9⟩ := h
  exact h9
set_option maxHeartbeats 4000000 in
theorem take_no (n rb : Nat) (bs l : List UInt8) (en : Int) (w : World) (hR : Rd w rb bs en l) (hn : l.length < n) (hn2 : n ≤ 2000) :
    Calls Tryd.prog 75 #[.pointer (some ⟨rb, 0, none⟩), .int .i64 (n : Int)] w fun e w' => e = .panicked (fl en) ∧ w.grownBy w' (some rb) := by
  obtain ⟨a, len, cap, pos, h1, h2, h3, h4, h5, h6, h7, h8, h9⟩ := hR
  have hlen : len ≤ 9223372036854775807 := by have := h3.2.1; have := h3.2.2.1; simp only [maxLen] at this; omega
  have hd : decide ((len : Int) - (pos : Int) < (n : Int)) = true := by simp; omega
  go_enter Tryd.func75, Tryd.ntmps75
  go_wp2_with fail
  go_quiet (fail)
  go_wp2_with fail
  refine (fail_any en _).mono ?_
  rintro e w1 ⟨rfl, rfl⟩
  go_wp2_with fail
  exact bodyPost_pan rfl ⟨rfl, gb_below (below_drewN (Below.refl _ _) _)⟩

set_option maxHeartbeats 4000000 in
theorem take_ok (n rb : Nat) (bs l : List UInt8) (en : Int) (w : World) (hR : Rd w rb bs en l) (hn : n ≤ l.length) (hn2 : n ≤ 2000) :
    Calls Tryd.prog 75 #[.pointer (some ⟨rb, 0, none⟩), .int .i64 (n : Int)] w fun e w' => ∃ a c, e = .returned (.slice a n c) ∧ Bytes w' a n c (l.take n) ∧ Rd w' rb bs en (l.drop n) ∧ w.grownBy w' (some rb) := by
  obtain ⟨a, len, cap, pos, h1, h2, h3, h4, h5, h6, h7, h8, h9⟩ := hR
  have hlen : len ≤ 9223372036854775807 := by have := h3.2.1; have := h3.2.2.1; simp only [maxLen] at this; omega
  have hlc := h3.2.1
  have hd : decide ((len : Int) - (pos : Int) < (n : Int)) = false := by simp; omega
  have H3 := Lib.hid h3
  have H4 := Lib.hid h4
  have H1 := Lib.hid h1
  clear h3 h4 h1
  go_enter Tryd.func75, Tryd.ntmps75
  go_wp2_with fail
  go_quiet (fail)
  have hbq := below_drewN (Below.refl w.heap.size w) nq
  have hg0 : w.grownBy (w.drewN nq) (some rb) := gb_below hbq
  replace H3 := Lib.hid (H3.out.below hbq)
  replace h5 := bc hbq h9 h5
  replace h6 := bc hbq h9 h6
  replace h7 := bc hbq h9 h7
  replace h8 := bf hbq h9 h8
  replace h9 := bl hbq h9
  clear hbq
  generalize w.drewN nq = wa at *
  go_wp2_with fail
  go_quiet (fail)
  have HS := Lib.hid (H3.out.sub pos n (by omega))
  rw [Nat.add_sub_cancel_left]
  have HA := Lib.hid (show (if cap = pos then a else Option.map (fun x => x.add pos) a) = (if cap = pos then a else Option.map (fun x => x.add pos) a) from rfl)
  generalize hA : (if cap = pos then a else Option.map (fun x => x.add pos) a) = a' at *
  replace HA := Lib.hid hA
  clear hA
  go_wp2_with fail
  have hg2 : wa.grownBy ((wa.setCell ⟨rb, 1, none⟩ (.int .i64 ((pos : Int) + (n : Int)))).drewN nq) (some rb) :=
    gb_trans (gb_set _ _ _ _) (gb_below (below_drewN (Below.refl _ _) nq))
  have k0 : ((wa.setCell ⟨rb, 1, none⟩ (.int .i64 ((pos : Int) + (n : Int)))).drewN nq).cell? ⟨rb, 0, none⟩ = some (.slice a len cap) := by go_simp
  have k1 : ((wa.setCell ⟨rb, 1, none⟩ (.int .i64 ((pos : Int) + (n : Int)))).drewN nq).cell? ⟨rb, 1, none⟩ = some (.int .i64 ((pos + n : Nat) : Int)) := by go_simp
  have k2 : ((wa.setCell ⟨rb, 1, none⟩ (.int .i64 ((pos : Int) + (n : Int)))).drewN nq).cell? ⟨rb, 2, none⟩ = some (.int .i64 en) := by go_simp
  have k3 : ((wa.setCell ⟨rb, 1, none⟩ (.int .i64 ((pos : Int) + (n : Int)))).drewN nq).frozen? ⟨rb, 1, none⟩ = false := by go_simp
  generalize (wa.setCell ⟨rb, 1, none⟩ (.int .i64 ((pos : Int) + (n : Int)))).drewN nq = w1 at *
  go_ret
  refine ⟨_, _, rfl, ?_, ⟨a, len, cap, pos + n, ?_, ?_, H3.out.by hg2 (H4.out.imp_right fun h x hx => Nat.ne_of_lt (h x hx)), H4.out, k0, k1, k2, k3, Nat.lt_of_lt_of_le h9 hg2.size⟩, gb_trans hg0 hg2⟩
  · rw [← H1.out]
    rcases H4.out with h0 | H4
    · exact HS.out.by hg2 (.inl (by omega))
    refine HS.out.by hg2 (.inr fun x hx => ?_)
    cases a with
    | none => rw [← HA.out] at hx; split at hx <;> simp at hx
    | some y =>
      have hy := Nat.ne_of_lt (H4 y rfl)
      rw [← HA.out] at hx
      split at hx
      · cases hx; exact hy
      · simp only [Option.map_some, Option.some.injEq] at hx
        rw [← hx]
        obtain ⟨yb, yo, ys⟩ := y
        unfold Addr.add
        split <;> exact hy
  · rw [← H1.out, List.drop_drop]
  · rw [List.length_drop]; omega

/-- what 'varint' does -/
def VP (w : World) (rb : Nat) (bs : List UInt8) (en : Int) : Except Int (Nat × List UInt8) → Ending → World → Prop
  | .ok (x, l), e, w' => e = .returned (.int .u64 (x : Int)) ∧ Rd w' rb bs en l ∧ w.grownBy w' (some rb)
  | .error x, e, w' => e = .panicked (fl x) ∧ w.grownBy w' (some rb)
theorem vp_ok {w w' : World} {rb : Nat} {bs l : List UInt8} {en : Int} {r : Except Int (Nat × List UInt8)} {x : Nat} {e : Ending} (h : r = .ok (x, l)) (h1 : e = .returned (.int .u64 (x : Int))) (h2 : Rd w' rb bs en l) (h3 : w.grownBy w' (some rb)) : VP w rb bs en r e w' := by
  subst h; exact ⟨h1, h2, h3⟩
theorem vp_err {w w' : World} {rb : Nat} {bs : List UInt8} {en : Int} {r : Except Int (Nat × List UInt8)} {x : Int} {e : Ending} (h : r = .error x) (h1 : e = .panicked (fl x)) (h3 : w.grownBy w' (some rb)) : VP w rb bs en r e w' := by
  subst h; exact ⟨h1, h3⟩
theorem pow_split (i : Nat) : (2 : Nat) ^ (7 * i) = 128 ^ i := by rw [Nat.pow_mul]
theorem or_shift {acc m i : Nat} (h : acc < 128 ^ i) : acc ||| (m * 128 ^ i) = acc + m * 128 ^ i := by
  rw [← pow_split] at *
  rw [Nat.or_comm, ← Nat.shiftLeft_eq, ← Nat.shiftLeft_add_eq_or_of_lt h, Nat.add_comm]
theorem acc_lt {acc m i : Nat} (h : acc < 128 ^ i) (hm : m < 128) : acc + m * 128 ^ i < 128 ^ (i + 1) := by
  rw [Nat.pow_succ, Nat.mul_comm (128 ^ i) 128]
  have : m * 128 ^ i ≤ 127 * 128 ^ i := Nat.mul_le_mul_right _ (by omega)
  have e : 128 * 128 ^ i = 127 * 128 ^ i + 128 ^ i := by rw [show (128 : Nat) = 127 + 1 by rfl, Nat.add_mul, Nat.one_mul]
  omega

theorem or_val {acc m i : Nat} (hi : i ≤ 9) (h : acc < 128 ^ i) (hm : m < 128) (h9 : i = 9 → m ≤ 1) : bits .or .u64 (acc : Int) (IntKind.u64.wrap ((m : Int) * 2 ^ (7 * i))) = ((acc + m * 128 ^ i : Nat) : Int) := by
  have hb : (128 : Nat) ^ i ≤ 128 ^ 9 := Nat.pow_le_pow_right (by omega) hi
  have h1 : m * 128 ^ i < 18446744073709551616 := by
    by_cases h8 : i = 9
    · subst h8
      have := h9 rfl
      have : m * 128 ^ 9 ≤ 1 * 128 ^ 9 := Nat.mul_le_mul_right _ this
      simp at this ⊢; omega
    · have h7 : (128 : Nat) ^ i ≤ 128 ^ 8 := Nat.pow_le_pow_right (by omega) (by omega)
      have : m * 128 ^ i ≤ 127 * 128 ^ 8 := Nat.mul_le_mul (by omega) h7
      simp at this ⊢; omega
  have h2 : acc < 18446744073709551616 := by simp at hb; omega
  have e1 : ((m : Int) * 2 ^ (7 * i)) = ((m * 128 ^ i : Nat) : Int) := by
    rw [Int.natCast_mul, ← pow_split, Int.natCast_pow]; rfl
  rw [e1, IntKind.wrap_u64, Int.emod_eq_of_lt (by omega) (by omega), bits_or_u64_nat _ _ h2 h1, or_shift h]
theorem and127 {a : Nat} (h : a < 256) : bits .and .u8 (a : Int) 127 = ((a % 128 : Nat) : Int) := by
  have hb : (BitVec.ofInt 8 (a : Int)).toNat = a := by rw [BitVec.toNat_ofInt]; simp; omega
  have h1 : ∀ a : Fin 256, (a.val &&& 127) = a.val % 128 := by decide
  show IntKind.u8.wrap ((BitVec.ofInt 8 (a : Int) &&& BitVec.ofInt 8 127).toNat : Int) = _
  rw [BitVec.toNat_and, hb, show (BitVec.ofInt 8 127).toNat = 127 from by decide, h1 ⟨a, h⟩, IntKind.wrap_u8]
  simp only
  omega
set_option maxHeartbeats 8000000 in
theorem varint_any (rb : Nat) (bs l : List UInt8) (en : Int) (w : World) (hR : Rd w rb bs en l) :
    Calls Tryd.prog 74 #[.pointer (some ⟨rb, 0, none⟩)] w (VP w rb bs en (vDec en 0 0 l)) := by
  have HR := Lib.hid hR
  clear hR
  go_enter Tryd.func74, Tryd.ntmps74
  go_wp2_with fail
  go_loopw [3, 4] (fun u y wr => ∃ (i acc : Nat) (lk : List UInt8), i ≤ 9 ∧ u = .int .u64 (acc : Int) ∧ y = .int .i64 (i : Int) ∧ Hid (acc < 128 ^ i) ∧ Hid (Rd wr rb bs en lk) ∧ Hid (w.grownBy wr (some rb)) ∧ Hid (vDec en 0 0 l = vDec en i acc lk)) (fun _ y _ => 10 - (intOf y).toNat)
  case atStart => exact ⟨0, 0, l, by omega, rfl, rfl, Lib.hid (by simp), HR, Lib.hid (gb_refl _ _), Lib.hid rfl⟩
  case round =>
    obtain ⟨i, acc, lk, hi, rfl, rfl, HA, HRk, HG, HD⟩ := hrel
    cases lk with
    | nil =>
      have HE := Lib.hid (show vDec en 0 0 l = .error en by rw [HD.out]; rfl)
      go_wp2_with fail
      refine (take_no 1 rb bs [] en _ HRk.out (by simp) (by omega)).mono ?_
      rintro e w1 ⟨rfl, hg⟩
      have HG1 := Lib.hid (gb_trans HG.out hg)
      go_wp2_with fail
      exact bodyPost_pan rfl (vp_err HE.out rfl HG1.out)
    | cons c lk =>
      go_wp2_with fail
      refine (take_ok 1 rb bs (c :: lk) en _ HRk.out (by simp) (by omega)).mono ?_
      rintro e w1 ⟨a1, c1, rfl, hb1, hr1, hg1⟩
      obtain ⟨b, off, rfl, hbl, hcc⟩ := hb1.2.at (k := 0) (by omega)
      have y0 := hcc 0 (by omega) w1 (Below.refl _ _)
      simp only [Nat.add_zero, List.take_succ_cons, List.take_zero, List.getD_cons_zero] at y0
      have HR1 := Lib.hid hr1
      have HG1 := Lib.hid (gb_trans HG.out hg1)
      simp only [List.drop_succ_cons, List.drop_zero] at HR1
      have hc256 : c.toNat < 256 := c.toNat_lt
      have HD1 := Lib.hid (show vDec en 0 0 l = if i = 9 ∧ 1 < c.toNat ∨ 0 < i ∧ c.toNat = 0 then .error 2 else if c.toNat < 128 then .ok (acc + c.toNat % 128 * 128 ^ i, lk) else vDec en (i + 1) (acc + c.toNat % 128 * 128 ^ i) lk by rw [HD.out]; rfl)
      clear hb1 hr1 hg1 hcc hbl HR HG HD HRk
      generalize c.toNat = cn at *
      have hand : bits .and .u8 (cn : Int) 127 = ((cn % 128 : Nat) : Int) := and127 hc256
      have hmlt : cn % 128 < 128 := Nat.mod_lt _ (by omega)
      by_cases h9 : i = 9
      · have b9 : ((i : Int) == 9) = true := by simp; omega
        have d0 : decide (0 < (i : Int)) = true := by simp; omega
        by_cases hc1 : 1 < cn
        · have d1 : decide (1 < (cn : Int)) = true := by simp; omega
          have HE := Lib.hid (show vDec en 0 0 l = .error 2 by rw [HD1.out, if_pos (by omega)])
          clear HD1
          go_wp2_with fail
          refine (fail_any 2 _).mono ?_
          rintro e w2 ⟨rfl, rfl⟩
          go_wp2_with fail
          exact bodyPost_pan rfl (vp_err HE.out rfl HG1.out)
        have d1 : decide (1 < (cn : Int)) = false := by simp; omega
        by_cases hc0 : cn = 0
        · have z0 : ((cn : Int) == 0) = true := by simp; omega
          have HE := Lib.hid (show vDec en 0 0 l = .error 2 by rw [HD1.out, if_pos (by omega)])
          clear HD1
          go_wp2_with fail
          refine (fail_any 2 _).mono ?_
          rintro e w2 ⟨rfl, rfl⟩
          go_wp2_with fail
          exact bodyPost_pan rfl (vp_err HE.out rfl HG1.out)
        have z0 : ((cn : Int) == 0) = false := by simp; omega
        have HV := Lib.hid (or_val hi HA.out hmlt (by omega))
        rw [show (2 : Int) ^ (7 * i) = 9223372036854775808 by rw [h9]; rfl] at HV
        have hlt : cn < 128 := by omega
        rw [if_neg (by omega), if_pos hlt] at HD1
        generalize hm : cn % 128 = m at *
        clear hm
        have dl : decide ((cn : Int) < 128) = true := by simp; omega
        go_wp2_with fail
        go_ret
        exact vp_ok HD1.out (by rw [← HV.out]; rfl) HR1.out HG1.out
      have b9 : ((i : Int) == 9) = false := by simp; omega
      by_cases h0 : 0 < i
      · have d0 : decide (0 < (i : Int)) = true := by simp; omega
        by_cases hc0 : cn = 0
        · have z0 : ((cn : Int) == 0) = true := by simp; omega
          have HE := Lib.hid (show vDec en 0 0 l = .error 2 by rw [HD1.out, if_pos (by omega)])
          clear HD1
          go_wp2_with fail
          refine (fail_any 2 _).mono ?_
          rintro e w2 ⟨rfl, rfl⟩
          go_wp2_with fail
          exact bodyPost_pan rfl (vp_err HE.out rfl HG1.out)
        have z0 : ((cn : Int) == 0) = false := by simp; omega
        have HV := Lib.hid (or_val hi HA.out hmlt (by omega))
        have HA1 := Lib.hid (acc_lt HA.out hmlt)
        rw [if_neg (by omega)] at HD1
        generalize hm : cn % 128 = m at *
        clear hm
        by_cases hlt : cn < 128
        · have dl : decide ((cn : Int) < 128) = true := by simp; omega
          rw [if_pos hlt] at HD1
          go_wp2_with fail
          go_ret
          exact vp_ok HD1.out (by rw [← HV.out]; rfl) HR1.out HG1.out
        · have dl : decide ((cn : Int) < 128) = false := by simp; omega
          rw [if_neg hlt] at HD1
          have hi8 : i ≤ 8 := by omega
          go_wp2_with fail
          go_roundw
          case rel => exact ⟨i + 1, acc + m * 128 ^ i, lk, by omega, by rw [HV.out], by go_num, HA1, HR1, HG1, HD1⟩
          case measure => simp [intOf]; omega
      have d0 : decide (0 < (i : Int)) = false := by simp; omega
      have HV := Lib.hid (or_val hi HA.out hmlt (by omega))
      have HA1 := Lib.hid (acc_lt HA.out hmlt)
      rw [if_neg (by omega)] at HD1
      generalize hm : cn % 128 = m at *
      clear hm
      by_cases hlt : cn < 128
      · have dl : decide ((cn : Int) < 128) = true := by simp; omega
        rw [if_pos hlt] at HD1
        go_wp2_with fail
        go_ret
        exact vp_ok HD1.out (by rw [← HV.out]; rfl) HR1.out HG1.out
      · have dl : decide ((cn : Int) < 128) = false := by simp; omega
        rw [if_neg hlt] at HD1
        have hi8 : i ≤ 8 := by omega
        go_wp2_with fail
        go_roundw
        case rel => exact ⟨i + 1, acc + m * 128 ^ i, lk, by omega, by rw [HV.out], by go_num, HA1, HR1, HG1, HD1⟩
        case measure => simp [intOf]; omega

/-- what 'count' does -/
def CP (w : World) (rb : Nat) (bs : List UInt8) (en : Int) (most : Nat) : Except Int (Nat × List UInt8) → Ending → World → Prop
  | .ok (x, l), e, w' => (x ≤ most ∧ e = .returned (.int .i64 (x : Int)) ∧ Rd w' rb bs en l ∧ w.grownBy w' (some rb)) ∨ (most < x ∧ e = .panicked (fl 5) ∧ w.grownBy w' (some rb))
  | .error x, e, w' => e = .panicked (fl x) ∧ w.grownBy w' (some rb)
set_option maxHeartbeats 4000000 in
theorem count_any (most rb : Nat) (bs l : List UInt8) (en : Int) (w : World) (hm : most ≤ 2000) (hR : Rd w rb bs en l) :
    Calls Tryd.prog 77 #[.pointer (some ⟨rb, 0, none⟩), .int .i64 (most : Int)] w (CP w rb bs en most (vDec en 0 0 l)) := by
  have HR := Lib.hid hR
  clear hR
  cases hv : vDec en 0 0 l with
  | error x =>
    have HV : ∀ W, Rd W rb bs en l → Calls Tryd.prog 74 #[.pointer (some ⟨rb, 0, none⟩)] W fun e w' => e = .panicked (fl x) ∧ W.grownBy w' (some rb) := fun W h => by
      have := varint_any rb bs l en W h
      rw [hv] at this; exact this
    clear hv
    go_enter Tryd.func77, Tryd.ntmps77
    go_wp2_with fail
    refine (HV _ HR.out).mono ?_
    rintro e w1 ⟨rfl, hg⟩
    go_wp2_with fail
    exact bodyPost_pan rfl ⟨rfl, hg⟩
  | ok r =>
    obtain ⟨x, l'⟩ := r
    have HV : ∀ W, Rd W rb bs en l → Calls Tryd.prog 74 #[.pointer (some ⟨rb, 0, none⟩)] W fun e w' => e = .returned (.int .u64 (x : Int)) ∧ Rd w' rb bs en l' ∧ W.grownBy w' (some rb) := fun W h => by
      have := varint_any rb bs l en W h
      rw [hv] at this; exact this
    clear hv
    by_cases hx : most < x
    · have hd : decide ((most : Int) < (x : Int)) = true := by simp; omega
      go_enter Tryd.func77, Tryd.ntmps77
      go_wp2_with fail
      refine (HV _ HR.out).mono ?_
      rintro e w1 ⟨rfl, hr, hg⟩
      go_wp2_with fail
      refine (fail_any 5 _).mono ?_
      rintro e w2 ⟨rfl, rfl⟩
      go_wp2_with fail
      exact bodyPost_pan rfl (.inr ⟨hx, rfl, hg⟩)
    · have hd : decide ((most : Int) < (x : Int)) = false := by simp; omega
      go_enter Tryd.func77, Tryd.ntmps77
      go_wp2_with fail
      refine (HV _ HR.out).mono ?_
      rintro e w1 ⟨rfl, hr, hg⟩
      have HR1 := Lib.hid hr
      have HG1 := Lib.hid hg
      clear hr hg
      go_wp2_with fail
      go_ret
      exact .inl ⟨by omega, rfl, HR1.out, HG1.out⟩
end Go.Proofs.YthbfmioikbphgaaDoor
