/- UploadDamage: a packet of which one byte of the data, or the checksum, is changed is refused: the law returns true. No condition. -/
import Derived.Test.YtpdodapdaeochaaUpV
import Derived.Test.YtpdodapdaeochaaUpU
namespace Go.Proofs.Ytpdodapdaeochaa
set_option maxRecDepth 100000
open Go.ChangeShapes Go.WideShapes Go.ChangeAt Go.RowKit
theorem rdam (t : Nat) (ys : List UInt8) (su : UInt64) (g : Int) (a : Option Addr) (n c : Nat) (w : World) (hx : Bytes w a n c ys) (ho : OkP 5 t n) (ht : t ≤ 65535) (hg : g = if su = sumU 5 t ys then 0 else 12) :
    Calls Try.prog 11 #[.agg #[.int .i64 5, .slice none 0 0, .slice none 0 0], .agg #[.int .i64 5, .int .i64 t, .slice a n c, .int .u64 (su.toNat : Int)]] w fun e w' => ∃ z p0 n0 r0 p1 n1 r1, e = .returned (.tuple #[.agg #[.int .i64 z, .slice p0 n0 r0, .slice p1 n1 r1], .int .i64 g]) ∧ Below w.heap.size w w' := by
  by_cases hs : su = sumU 5 t ys
  · rw [if_pos hs] at hg
    subst hg
    have hlen : (List.replicate t (0 : UInt8) ++ ys).length = t + n := by simp [hx.1]
    have hseg : seg (List.replicate t (0 : UInt8) ++ ys) (t, n) = ys := by
      unfold seg
      rw [List.drop_left' (by simp), List.take_of_length_le (by rw [hx.1]; exact Nat.le_refl _)]
    have hpk : (pk 5 (List.replicate t (0 : UInt8) ++ ys) (t, n)).su = su := by
      show sumU 5 t (seg (List.replicate t (0 : UInt8) ++ ys) (t, n)) = su
      rw [hseg, hs]
    have h1 := ho.2.2.2.1
    have h2 := ho.2.2.2.2.1
    have hgood : GoodQ (List.replicate t (0 : UInt8) ++ ys) (t, n) := ⟨by show 1 ≤ n; omega, by show n ≤ 2000; omega, by show t + n ≤ _; omega⟩
    have hI : Inb 5 (List.replicate t (0 : UInt8) ++ ys) 0 [] := Inb.of (by decide) (by omega) (by omega) (by simp) (by simp [Srt]) (by simp)
    refine (receive_any 5 _ 0 [] (t, n) _ _ w hI hgood (InV.zero _ _ _) ⟨a, c, by rw [hpk]; rfl, by rw [hseg]; exact hx⟩).mono ?_
    rintro e w' ⟨v', rfl, hv, hb⟩
    obtain ⟨b0, e0, b1, e1, rfl, -, -⟩ := hv
    exact ⟨5, b0, _, e0, b1, _, e1, rfl, hb⟩
  · rw [if_neg hs] at hg
    subst hg
    have hc : chkE ⟨5, t, ys, su⟩ = 12 := by
      have ho' : OkP 5 t ys.length := by rw [hx.1]; exact ho
      exact (if_pos ho').trans (if_neg hs)
    refine (receive_chk ⟨5, t, ys, su⟩ a n c w hx 12 hc (by decide)).mono ?_
    rintro e w' ⟨rfl, hb⟩
    exact ⟨0, none, 0, 0, none, 0, 0, rfl, hb⟩
theorem rses (t : Nat) (ys : List UInt8) (su : UInt64) (a : Option Addr) (n c : Nat) (w : World) (hx : Bytes w a n c ys) (ho : OkP 5 t n) :
    Calls Try.prog 11 #[.agg #[.int .i64 5, .slice none 0 0, .slice none 0 0], .agg #[.int .i64 6, .int .i64 t, .slice a n c, .int .u64 (su.toNat : Int)]] w fun e w' => ∃ g : Int, e = .returned (.tuple #[.agg #[.int .i64 0, .slice none 0 0, .slice none 0 0], .int .i64 g]) ∧ (g == 0) = false ∧ Below w.heap.size w w' := by
  have ho6 : OkP 6 t ys.length := by rw [hx.1]; exact ⟨by decide, ho.2⟩
  by_cases hs : su = sumU 6 t ys
  · have hc : chkE ⟨6, t, ys, su⟩ = 0 := (if_pos ho6).trans (if_pos hs)
    refine (receive_ses ⟨6, t, ys, su⟩ a n c w hx hc (show (6 : Nat) ≠ 5 by decide)).mono ?_
    rintro e w' ⟨rfl, hb⟩
    exact ⟨6, rfl, rfl, hb⟩
  · have hc : chkE ⟨6, t, ys, su⟩ = 12 := (if_pos ho6).trans (if_neg hs)
    refine (receive_chk ⟨6, t, ys, su⟩ a n c w hx 12 hc (by decide)).mono ?_
    rintro e w' ⟨rfl, hb⟩
    exact ⟨12, rfl, rfl, hb⟩
set_option maxHeartbeats 16000000 in
theorem uploadDamage_le (xs : List UInt8) (t v : Nat) (x : UInt8) (sm : UInt64) (a : Option Addr) (len cap : Nat) (w : World) (hx : Bytes w a len cap xs) (ht : t ≤ 65535) (hv : v ≤ 65535) (hm : len ≤ 2000) :
    Calls Try.prog 6 #[.slice a len cap, .int .u16 t, .int .u16 v, .int .u8 (x.toNat : Int), .int .u64 (sm.toNat : Int)] w fun e w' => e = .returned (.bool true) ∧ Below w.heap.size w w' := by
  have hmc : len ≤ cap := Nat.le_trans (by omega) hx.2.1
  have HD := Lib.hid (hx.pre len (by omega))
  have HL := Lib.hid (show (xs.take len).length = len by rw [List.length_take, hx.1]; omega)
  generalize xs.take len = da at *
  have hwt : IntKind.i64.wrap (t : Int) = t := by rw [IntWalk.i64_in _ (by omega)]
  have hwv : IntKind.i64.wrap (v : Int) = v := by rw [IntWalk.i64_in _ (by omega)]
  clear hx
  have hle : (len : Int) ≤ 2000 := by omega
  go_enter Try.func6, Try.ntmps6
  go_wp2_with fail
  refine (new_ok 5 _ (by decide)).mono ?_
  rintro e w1 ⟨rfl, hb⟩
  replace HD := Lib.hid (HD.out.below hb)
  have hB := hb
  clear hb
  have hba : Below w1.heap.size w1 (w1.alloc (.cells #[.int .i64 5, .slice none 0 0, .slice none 0 0] 28)) := (Below.refl _ _).alloc (Nat.le_refl _) _
  go_wp2_with fail
  clear hba
  have hbx : Below w1.heap.size w1 (w1.alloc (.cells #[.int .i64 5, .slice none 0 0, .slice none 0 0] 28)) := ((Below.refl _ _).alloc (Nat.le_refl _) _)
  generalize hWW : (w1.alloc (.cells #[.int .i64 5, .slice none 0 0, .slice none 0 0] 28)) = w2 at *
  replace HD := Lib.hid (HD.out.below hbx)
  have cI0 : w2.cell? ⟨w1.heap.size, 0, none⟩ = some (.int .i64 5) := by subst hWW; go_simp
  have cI1 : w2.cell? ⟨w1.heap.size, 1, none⟩ = some (.slice none 0 0) := by subst hWW; go_simp
  have cI2 : w2.cell? ⟨w1.heap.size, 2, none⟩ = some (.slice none 0 0) := by subst hWW; go_simp
  have ltI : w1.heap.size < w2.heap.size := by subst hWW; simp
  replace hB := hB.trans (hbx.mono hB.size)
  clear hbx hWW
  by_cases hn : len = 0
  · have ho : ¬ OkP 5 t len := fun h => by have := h.2.2.2.1; omega
    have dn : decide (0 < len) = false := decide_eq_false (by omega)
    clear hn
    refine (packet_no 5 t a len cap _ ho).mono ?_
    rintro e w3 ⟨rfl, hb⟩
    replace cI0 := bc hb ltI cI0
    replace cI1 := bc hb ltI cI1
    replace cI2 := bc hb ltI cI2
    replace ltI := bl hb ltI
    replace HD := Lib.hid (HD.out.below hb)
    replace hB := hB.trans (hb.mono hB.size)
    clear hb
    have hba : Below w3.heap.size w3 (w3.alloc (.cells #[.int .i64 0, .int .i64 0, .slice none 0 0, .int .u64 0] 35)) := (Below.refl _ _).alloc (Nat.le_refl _) _
    have nI0 := bc hba ltI cI0
    have nI1 := bc hba ltI cI1
    have nI2 := bc hba ltI cI2
    go_wp2_with fail
    clear hba nI0 nI1 nI2
    have hbx : Below w3.heap.size w3 (w3.alloc (.cells #[.int .i64 0, .int .i64 0, .slice none 0 0, .int .u64 0] 35)) := ((Below.refl _ _).alloc (Nat.le_refl _) _)
    generalize hWW : (w3.alloc (.cells #[.int .i64 0, .int .i64 0, .slice none 0 0, .int .u64 0] 35)) = w4 at *
    replace cI0 := bc hbx ltI cI0
    replace cI1 := bc hbx ltI cI1
    replace cI2 := bc hbx ltI cI2
    replace ltI := bl hbx ltI
    replace HD := Lib.hid (HD.out.below hbx)
    have cP0 : w4.cell? ⟨w3.heap.size, 0, none⟩ = some (.int .i64 0) := by subst hWW; go_simp
    have cP1 : w4.cell? ⟨w3.heap.size, 1, none⟩ = some (.int .i64 0) := by subst hWW; go_simp
    have cP2 : w4.cell? ⟨w3.heap.size, 2, none⟩ = some (.slice none 0 0) := by subst hWW; go_simp
    have cP3 : w4.cell? ⟨w3.heap.size, 3, none⟩ = some (.int .u64 0) := by subst hWW; go_simp
    have ltP : w3.heap.size < w4.heap.size := by subst hWW; simp
    replace hB := hB.trans (hbx.mono hB.size)
    clear hbx hWW
    refine (awake_any _).mono ?_
    rintro e w5 ⟨rfl, hb⟩
    replace cI0 := bc hb ltI cI0
    replace cI1 := bc hb ltI cI1
    replace cI2 := bc hb ltI cI2
    replace ltI := bl hb ltI
    replace cP0 := bc hb ltP cP0
    replace cP1 := bc hb ltP cP1
    replace cP2 := bc hb ltP cP2
    replace cP3 := bc hb ltP cP3
    replace ltP := bl hb ltP
    replace HD := Lib.hid (HD.out.below hb)
    replace hB := hB.trans (hb.mono hB.size)
    clear hb
    go_wp2_with fail
    go_ret
    exact ⟨rfl, hB⟩
  · have h1m : 1 ≤ len := by omega
    have ho : OkP 5 t len := ⟨by decide, by omega, by omega, by omega, by omega, by omega⟩
    have dn : decide (0 < len) = true := decide_eq_true (by omega)
    refine (packet_ok 5 t da a len cap _ HD.out ho).mono ?_
    rintro e w3 ⟨b1, e1, rfl, h1, hb⟩
    replace cI0 := bc hb ltI cI0
    replace cI1 := bc hb ltI cI1
    replace cI2 := bc hb ltI cI2
    replace ltI := bl hb ltI
    replace HD := Lib.hid (HD.out.below hb)
    replace hB := hB.trans (hb.mono hB.size)
    have H1 := Lib.hid h1
    generalize hsu : sumU 5 t da = su at *
    have HSu := Lib.hid hsu
    clear h1 hsu
    clear hb
    have hb4 : Below w3.heap.size w3 (w3.alloc (.cells #[.int .i64 5, .int .i64 t, .slice b1 len e1, .int .u64 (su.toNat : Int)] 35)) := (Below.refl _ _).alloc (Nat.le_refl _) _
    have hb5 : Below (w3.alloc (.cells #[.int .i64 5, .int .i64 t, .slice b1 len e1, .int .u64 (su.toNat : Int)] 35)).heap.size (w3.alloc (.cells #[.int .i64 5, .int .i64 t, .slice b1 len e1, .int .u64 (su.toNat : Int)] 35)) ((w3.alloc (.cells #[.int .i64 5, .int .i64 t, .slice b1 len e1, .int .u64 (su.toNat : Int)] 35)).alloc (.cells #[] 5)) := (Below.refl _ _).alloc (Nat.le_refl _) _
    have hz4 : (w3.alloc (.cells #[.int .i64 5, .int .i64 t, .slice b1 len e1, .int .u64 (su.toNat : Int)] 35)).heap.size = w3.heap.size + 1 := by simp
    have HO := Lib.hid (show Owns ((w3.alloc (.cells #[.int .i64 5, .int .i64 t, .slice b1 len e1, .int .u64 (su.toNat : Int)] 35)).alloc (.cells #[] 5)) (w3.alloc (.cells #[.int .i64 5, .int .i64 t, .slice b1 len e1, .int .u64 (su.toNat : Int)] 35)).heap.size 5 (.slice (some ⟨(w3.alloc (.cells #[.int .i64 5, .int .i64 t, .slice b1 len e1, .int .u64 (su.toNat : Int)] 35)).heap.size, 0, none⟩) 0 0) [] from ⟨rfl, .inr ⟨(w3.alloc (.cells #[.int .i64 5, .int .i64 t, .slice b1 len e1, .int .u64 (su.toNat : Int)] 35)).heap.size, 0, #[], rfl, Nat.le_refl _, heap_alloc_new _ _, Nat.le_refl _, by simp [maxLen], rfl, rfl⟩⟩)
    rw [hz4] at HO
    have HT := Lib.hid ((H1.out.below hb4).below hb5)
    have hs5 : (w3.alloc (.cells #[.int .i64 5, .int .i64 t, .slice b1 len e1, .int .u64 (su.toNat : Int)] 35)).heap.size ≤ ((w3.alloc (.cells #[.int .i64 5, .int .i64 t, .slice b1 len e1, .int .u64 (su.toNat : Int)] 35)).alloc (.cells #[] 5)).heap.size := hb5.size
    rw [hz4] at hs5
    have hb35 := hb4.trans (hb5.mono hb4.size)
    clear hb4 hb5
    go_wp2_with (at_builtin; go_must (
         refine wpList_app rfl _ _ 22 rfl (w3.heap.size + 1) 5 (.int .u8 0) 1 Try.underlying22 infoByte rfl (.slice (some ⟨w3.heap.size + 1, 0, none⟩) 0 0) [] rfl HO.out b1 len e1 (bvs da) rfl (by rw [bvs_length]; exact HL.out) HT.out.vals (bvs_one _) (by simp only [List.length_nil]; omega) (by simp only [List.length_nil, maxLen]; omega) hs5 fun v1 w6 h1 h2 => ?_
         have hP46 : Below (w3.alloc (.cells #[.int .i64 5, .int .i64 t, .slice b1 len e1, .int .u64 (su.toNat : Int)] 35)).heap.size (w3.alloc (.cells #[.int .i64 5, .int .i64 t, .slice b1 len e1, .int .u64 (su.toNat : Int)] 35)) ((w3.alloc (.cells #[.int .i64 5, .int .i64 t, .slice b1 len e1, .int .u64 (su.toNat : Int)] 35)).alloc (.cells #[] 5)) := (Below.refl _ _).alloc (Nat.le_refl _) _
         have hB46 : Below (w3.alloc (.cells #[.int .i64 5, .int .i64 t, .slice b1 len e1, .int .u64 (su.toNat : Int)] 35)).heap.size (w3.alloc (.cells #[.int .i64 5, .int .i64 t, .slice b1 len e1, .int .u64 (su.toNat : Int)] 35)) w6 := hP46.trans (h2.below (by rw [hz4]; exact hs5) (fun j hj => by simp [Value.ownBlock] at hj; rw [hz4]; omega))
         have hP34 : Below w3.heap.size w3 (w3.alloc (.cells #[.int .i64 5, .int .i64 t, .slice b1 len e1, .int .u64 (su.toNat : Int)] 35)) := (Below.refl _ _).alloc (Nat.le_refl _) _
         have hB36 : Below w3.heap.size w3 w6 := hP34.trans (hB46.mono hP34.size)
         have h1' : Owns w6 (w3.heap.size + 1) 5 v1 (bvs da) := by simpa using h1
         obtain ⟨gB, cb, rfl, hgB, hgl⟩ : ∃ gB cb, v1 = .slice (some ⟨gB, 0, none⟩) len cb ∧ w3.heap.size + 1 ≤ gB ∧ gB < w6.heap.size := by
           rcases h1'.form2 with ⟨-, h0⟩ | ⟨gB, cb, h0, -, -, h5, h6⟩
           · have := HL.out
             have h9 : (bvs da).length = 0 := by rw [h0]; rfl
             rw [bvs_length] at h9; omega
           · exact ⟨gB, cb, by rw [h0, bvs_length, HL.out], h5, h6⟩
         obtain ⟨kk, hkk⟩ : ∃ kk, kk = v % len := ⟨_, rfl⟩
         have hkm : kk < len := by rw [hkk]; exact Nat.mod_lt _ (by omega)
         have e9 : (v : Int) % len = kk := by omega
         have e8 : Int.tmod (v : Int) len = kk := by rw [Int.tmod_eq_emod_of_nonneg (by omega)]; exact e9
         have hnn : len ≠ 0 := by omega
         have hkl : kk < da.length := by rw [HL.out]; exact hkm
         have cg := h1'.cell kk hkm
         rw [bvs_at da kk hkl] at cg
         have fg := h1'.free kk
         have h8 := h1'.store kk (bv x)
         rw [bvs_set] at h8
         obtain ⟨ax, nx, cx, hex, hbx⟩ := h8.bytes
         cases hex
         have HBd := Lib.hid (show Bytes (w6.setCell ⟨gB, kk, none⟩ (.int .u8 (x.toNat : Int))) (some ⟨gB, 0, none⟩) len cb (da.set kk x) from hbx)
         have hB47 : Below (w3.alloc (.cells #[.int .i64 5, .int .i64 t, .slice b1 len e1, .int .u64 (su.toNat : Int)] 35)).heap.size (w3.alloc (.cells #[.int .i64 5, .int .i64 t, .slice b1 len e1, .int .u64 (su.toNat : Int)] 35)) (w6.setCell ⟨gB, kk, none⟩ (.int .u8 (x.toNat : Int))) := hB46.setCell (p := ⟨gB, kk, none⟩) (by rw [hz4]; exact hgB) _
         have hB37 : Below w3.heap.size w3 (w6.setCell ⟨gB, kk, none⟩ (.int .u8 (x.toNat : Int))) := hB36.setCell (p := ⟨gB, kk, none⟩) (show w3.heap.size ≤ gB by omega) _
         have HSt := Lib.hid (sumU_set 5 t da kk hkl x)
         rw [HSu.out] at HSt
         clear hbx h8 h1' h1 h2 hP46 hB46 hP34 hB36 HO HT hs5 hb35 hkk HL hkl
         have cP0 : (w3.alloc (.cells #[.int .i64 5, .int .i64 t, .slice b1 len e1, .int .u64 (su.toNat : Int)] 35)).cell? ⟨w3.heap.size, 0, none⟩ = some (.int .i64 5) := by go_simp
         have cP1 : (w3.alloc (.cells #[.int .i64 5, .int .i64 t, .slice b1 len e1, .int .u64 (su.toNat : Int)] 35)).cell? ⟨w3.heap.size, 1, none⟩ = some (.int .i64 t) := by go_simp
         have cP2 : (w3.alloc (.cells #[.int .i64 5, .int .i64 t, .slice b1 len e1, .int .u64 (su.toNat : Int)] 35)).cell? ⟨w3.heap.size, 2, none⟩ = some (.slice b1 len e1) := by go_simp
         have cP3 : (w3.alloc (.cells #[.int .i64 5, .int .i64 t, .slice b1 len e1, .int .u64 (su.toNat : Int)] 35)).cell? ⟨w3.heap.size, 3, none⟩ = some (.int .u64 (su.toNat : Int)) := by go_simp
         have ltP : w3.heap.size < (w3.alloc (.cells #[.int .i64 5, .int .i64 t, .slice b1 len e1, .int .u64 (su.toNat : Int)] 35)).heap.size := by simp
         replace cP0 := bc hB47 ltP cP0
         replace cP1 := bc hB47 ltP cP1
         replace cP2 := bc hB47 ltP cP2
         replace cP3 := bc hB47 ltP cP3
         replace ltP := bl hB47 ltP
         replace cI0 := bc hB37 ltI cI0
         replace cI1 := bc hB37 ltI cI1
         replace cI2 := bc hB37 ltI cI2
         replace ltI := bl hB37 ltI
         replace HD := Lib.hid (HD.out.below hB37)
         replace H1 := Lib.hid (H1.out.below hB37)
         replace hB := hB.trans (hB37.mono hB.size)
         clear hB37 hB47 hz4
         obtain ⟨ab, ao, rfl, -, -⟩ := HD.out.2.at hkm
         generalize hyb : da.getD kk 0 = yb at *
         have HYb := Lib.hid hyb
         clear hyb))
    clear cg fg
    generalize (w6.setCell ⟨gB, kk, none⟩ (.int .u8 (x.toNat : Int))) = w7 at *
    by_cases hxy : x = yb
    · by_cases hsm : sm = su
      · have HG1 := Lib.hid (show (0 : Int) = if su = sumU 5 t (da.set kk x) then 0 else 12 by rw [if_pos (HSt.out.2 hxy.symm)])
        have HG2 := Lib.hid (show (0 : Int) = if sm = sumU 5 t da then 0 else 12 by rw [HSu.out, if_pos hsm])
        have HXY := Lib.hid hxy
        subst hxy
        have HSM := Lib.hid hsm
        subst hsm
        refine (rdam t (da.set kk _) _ 0 (some ⟨gB, 0, none⟩) len cb _ HBd.out ho ht HG1.out).mono ?_
        rintro e w8 ⟨z1, q0, m0, r0, q1, m1, r1, rfl, hb⟩
        replace cI0 := bc hb ltI cI0
        replace cI1 := bc hb ltI cI1
        replace cI2 := bc hb ltI cI2
        replace ltI := bl hb ltI
        replace cP0 := bc hb ltP cP0
        replace cP1 := bc hb ltP cP1
        replace cP2 := bc hb ltP cP2
        replace cP3 := bc hb ltP cP3
        replace ltP := bl hb ltP
        replace HD := Lib.hid (HD.out.below hb)
        replace H1 := Lib.hid (H1.out.below hb)
        replace HBd := Lib.hid (HBd.out.below hb)
        replace hB := hB.trans (hb.mono hB.size)
        clear hb
        have hba : Below w8.heap.size w8 (w8.alloc (.cells #[.int .i64 z1, .slice q0 m0 r0, .slice q1 m1 r1] 28)) := (Below.refl _ _).alloc (Nat.le_refl _) _
        have nI0 := bc hba ltI cI0
        have nI1 := bc hba ltI cI1
        have nI2 := bc hba ltI cI2
        have nP0 := bc hba ltP cP0
        have nP1 := bc hba ltP cP1
        have nP2 := bc hba ltP cP2
        have nP3 := bc hba ltP cP3
        go_wp2_with fail
        clear hba nI0 nI1 nI2 nP0 nP1 nP2 nP3
        have hbx : Below w8.heap.size w8 (w8.alloc (.cells #[.int .i64 z1, .slice q0 m0 r0, .slice q1 m1 r1] 28)) := ((Below.refl _ _).alloc (Nat.le_refl _) _)
        generalize hWW : (w8.alloc (.cells #[.int .i64 z1, .slice q0 m0 r0, .slice q1 m1 r1] 28)) = w9 at *
        replace cI0 := bc hbx ltI cI0
        replace cI1 := bc hbx ltI cI1
        replace cI2 := bc hbx ltI cI2
        replace ltI := bl hbx ltI
        replace cP0 := bc hbx ltP cP0
        replace cP1 := bc hbx ltP cP1
        replace cP2 := bc hbx ltP cP2
        replace cP3 := bc hbx ltP cP3
        replace ltP := bl hbx ltP
        replace HD := Lib.hid (HD.out.below hbx)
        replace H1 := Lib.hid (H1.out.below hbx)
        replace HBd := Lib.hid (HBd.out.below hbx)
        have cG0 : w9.cell? ⟨w8.heap.size, 0, none⟩ = some (.int .i64 z1) := by subst hWW; go_simp
        have cG1 : w9.cell? ⟨w8.heap.size, 1, none⟩ = some (.slice q0 m0 r0) := by subst hWW; go_simp
        have cG2 : w9.cell? ⟨w8.heap.size, 2, none⟩ = some (.slice q1 m1 r1) := by subst hWW; go_simp
        have ltG : w8.heap.size < w9.heap.size := by subst hWW; simp
        replace hB := hB.trans (hbx.mono hB.size)
        clear hbx hWW
        refine (rdam t da _ 0 b1 len e1 _ H1.out ho ht HG2.out).mono ?_
        rintro e w10 ⟨z2, q2, m2, r2, q3, m3, r3, rfl, hb⟩
        replace cI0 := bc hb ltI cI0
        replace cI1 := bc hb ltI cI1
        replace cI2 := bc hb ltI cI2
        replace ltI := bl hb ltI
        replace cP0 := bc hb ltP cP0
        replace cP1 := bc hb ltP cP1
        replace cP2 := bc hb ltP cP2
        replace cP3 := bc hb ltP cP3
        replace ltP := bl hb ltP
        replace cG0 := bc hb ltG cG0
        replace cG1 := bc hb ltG cG1
        replace cG2 := bc hb ltG cG2
        replace ltG := bl hb ltG
        replace HD := Lib.hid (HD.out.below hb)
        replace H1 := Lib.hid (H1.out.below hb)
        replace HBd := Lib.hid (HBd.out.below hb)
        replace hB := hB.trans (hb.mono hB.size)
        clear hb
        obtain ⟨ab2, ao2, hae, hal, hac⟩ := HD.out.2.at hkm
        cases hae
        have y0 := hac kk hkm _ (Below.refl _ _)
        rw [HYb.out] at y0
        clear hac
        have hba : Below w10.heap.size w10 (w10.alloc (.cells #[.int .i64 z2, .slice q2 m2 r2, .slice q3 m3 r3] 28)) := (Below.refl _ _).alloc (Nat.le_refl _) _
        have nI0 := bc hba ltI cI0
        have nI1 := bc hba ltI cI1
        have nI2 := bc hba ltI cI2
        have nP0 := bc hba ltP cP0
        have nP1 := bc hba ltP cP1
        have nP2 := bc hba ltP cP2
        have nP3 := bc hba ltP cP3
        have nG0 := bc hba ltG cG0
        have nG1 := bc hba ltG cG1
        have nG2 := bc hba ltG cG2
        have ny0 := bc hba hal y0
        go_wp2_with fail
        clear hba nI0 nI1 nI2 nP0 nP1 nP2 nP3 nG0 nG1 nG2 ny0
        have hbx : Below w10.heap.size w10 (w10.alloc (.cells #[.int .i64 z2, .slice q2 m2 r2, .slice q3 m3 r3] 28)) := ((Below.refl _ _).alloc (Nat.le_refl _) _)
        generalize hWW : (w10.alloc (.cells #[.int .i64 z2, .slice q2 m2 r2, .slice q3 m3 r3] 28)) = w11 at *
        replace cI0 := bc hbx ltI cI0
        replace cI1 := bc hbx ltI cI1
        replace cI2 := bc hbx ltI cI2
        replace ltI := bl hbx ltI
        replace cP0 := bc hbx ltP cP0
        replace cP1 := bc hbx ltP cP1
        replace cP2 := bc hbx ltP cP2
        replace cP3 := bc hbx ltP cP3
        replace ltP := bl hbx ltP
        replace cG0 := bc hbx ltG cG0
        replace cG1 := bc hbx ltG cG1
        replace cG2 := bc hbx ltG cG2
        replace ltG := bl hbx ltG
        replace HD := Lib.hid (HD.out.below hbx)
        replace H1 := Lib.hid (H1.out.below hbx)
        replace HBd := Lib.hid (HBd.out.below hbx)
        have cK0 : w11.cell? ⟨w10.heap.size, 0, none⟩ = some (.int .i64 z2) := by subst hWW; go_simp
        have cK1 : w11.cell? ⟨w10.heap.size, 1, none⟩ = some (.slice q2 m2 r2) := by subst hWW; go_simp
        have cK2 : w11.cell? ⟨w10.heap.size, 2, none⟩ = some (.slice q3 m3 r3) := by subst hWW; go_simp
        have ltK : w10.heap.size < w11.heap.size := by subst hWW; simp
        replace hB := hB.trans (hbx.mono hB.size)
        clear hbx hWW
        clear y0 hal
        refine (rses t da _ b1 len e1 _ H1.out ho).mono ?_
        rintro e w12 ⟨gs, rfl, hgs, hb⟩
        replace cI0 := bc hb ltI cI0
        replace cI1 := bc hb ltI cI1
        replace cI2 := bc hb ltI cI2
        replace ltI := bl hb ltI
        replace cP0 := bc hb ltP cP0
        replace cP1 := bc hb ltP cP1
        replace cP2 := bc hb ltP cP2
        replace cP3 := bc hb ltP cP3
        replace ltP := bl hb ltP
        replace cG0 := bc hb ltG cG0
        replace cG1 := bc hb ltG cG1
        replace cG2 := bc hb ltG cG2
        replace ltG := bl hb ltG
        replace cK0 := bc hb ltK cK0
        replace cK1 := bc hb ltK cK1
        replace cK2 := bc hb ltK cK2
        replace ltK := bl hb ltK
        replace HD := Lib.hid (HD.out.below hb)
        replace H1 := Lib.hid (H1.out.below hb)
        replace HBd := Lib.hid (HBd.out.below hb)
        replace hB := hB.trans (hb.mono hB.size)
        have hgs2 : gs ≠ 0 := by intro h9; subst h9; simp at hgs
        have hgs3 : (gs != 0) = true := by simpa using hgs2
        clear hb
        have hba : Below w12.heap.size w12 (w12.alloc (.cells #[.int .i64 0, .slice none 0 0, .slice none 0 0] 28)) := (Below.refl _ _).alloc (Nat.le_refl _) _
        have nI0 := bc hba ltI cI0
        have nI1 := bc hba ltI cI1
        have nI2 := bc hba ltI cI2
        have nP0 := bc hba ltP cP0
        have nP1 := bc hba ltP cP1
        have nP2 := bc hba ltP cP2
        have nP3 := bc hba ltP cP3
        have nG0 := bc hba ltG cG0
        have nG1 := bc hba ltG cG1
        have nG2 := bc hba ltG cG2
        have nK0 := bc hba ltK cK0
        have nK1 := bc hba ltK cK1
        have nK2 := bc hba ltK cK2
        go_wp2_with fail
        clear hba nI0 nI1 nI2 nP0 nP1 nP2 nP3 nG0 nG1 nG2 nK0 nK1 nK2
        have hbx : Below w12.heap.size w12 (w12.alloc (.cells #[.int .i64 0, .slice none 0 0, .slice none 0 0] 28)) := ((Below.refl _ _).alloc (Nat.le_refl _) _)
        generalize hWW : (w12.alloc (.cells #[.int .i64 0, .slice none 0 0, .slice none 0 0] 28)) = w13 at *
        replace cI0 := bc hbx ltI cI0
        replace cI1 := bc hbx ltI cI1
        replace cI2 := bc hbx ltI cI2
        replace ltI := bl hbx ltI
        replace cP0 := bc hbx ltP cP0
        replace cP1 := bc hbx ltP cP1
        replace cP2 := bc hbx ltP cP2
        replace cP3 := bc hbx ltP cP3
        replace ltP := bl hbx ltP
        replace cG0 := bc hbx ltG cG0
        replace cG1 := bc hbx ltG cG1
        replace cG2 := bc hbx ltG cG2
        replace ltG := bl hbx ltG
        replace cK0 := bc hbx ltK cK0
        replace cK1 := bc hbx ltK cK1
        replace cK2 := bc hbx ltK cK2
        replace ltK := bl hbx ltK
        replace HD := Lib.hid (HD.out.below hbx)
        replace H1 := Lib.hid (H1.out.below hbx)
        replace HBd := Lib.hid (HBd.out.below hbx)
        have cO0 : w13.cell? ⟨w12.heap.size, 0, none⟩ = some (.int .i64 0) := by subst hWW; go_simp
        have cO1 : w13.cell? ⟨w12.heap.size, 1, none⟩ = some (.slice none 0 0) := by subst hWW; go_simp
        have cO2 : w13.cell? ⟨w12.heap.size, 2, none⟩ = some (.slice none 0 0) := by subst hWW; go_simp
        have ltO : w12.heap.size < w13.heap.size := by subst hWW; simp
        replace hB := hB.trans (hbx.mono hB.size)
        clear hbx hWW
        refine (awake_any _).mono ?_
        rintro e w14 ⟨rfl, hb⟩
        replace cI0 := bc hb ltI cI0
        replace cI1 := bc hb ltI cI1
        replace cI2 := bc hb ltI cI2
        replace ltI := bl hb ltI
        replace cP0 := bc hb ltP cP0
        replace cP1 := bc hb ltP cP1
        replace cP2 := bc hb ltP cP2
        replace cP3 := bc hb ltP cP3
        replace ltP := bl hb ltP
        replace cG0 := bc hb ltG cG0
        replace cG1 := bc hb ltG cG1
        replace cG2 := bc hb ltG cG2
        replace ltG := bl hb ltG
        replace cK0 := bc hb ltK cK0
        replace cK1 := bc hb ltK cK1
        replace cK2 := bc hb ltK cK2
        replace ltK := bl hb ltK
        replace cO0 := bc hb ltO cO0
        replace cO1 := bc hb ltO cO1
        replace cO2 := bc hb ltO cO2
        replace ltO := bl hb ltO
        replace HD := Lib.hid (HD.out.below hb)
        replace H1 := Lib.hid (H1.out.below hb)
        replace HBd := Lib.hid (HBd.out.below hb)
        replace hB := hB.trans (hb.mono hB.size)
        clear hb
        go_wp2_with fail
        go_ret
        exact ⟨rfl, hB⟩
      · have HG1 := Lib.hid (show (0 : Int) = if su = sumU 5 t (da.set kk x) then 0 else 12 by rw [if_pos (HSt.out.2 hxy.symm)])
        have HG2 := Lib.hid (show (12 : Int) = if sm = sumU 5 t da then 0 else 12 by rw [HSu.out, if_neg hsm])
        have HXY := Lib.hid hxy
        subst hxy
        have hse : ((sm.toNat : Int) == (su.toNat : Int)) = false := by
          simp only [beq_eq_false_iff_ne, ne_eq, Int.ofNat_inj]
          exact fun h9 => hsm (UInt64.toNat_inj.1 h9)
        have hse2 : sm.toNat ≠ su.toNat := fun h9 => hsm (UInt64.toNat_inj.1 h9)
        have hse3 : ((sm.toNat : Int) != (su.toNat : Int)) = true := by rw [bne, hse]; rfl
        have hse4 : (sm.toNat != su.toNat) = true := by simpa using hse2
        refine (rdam t (da.set kk _) _ 0 (some ⟨gB, 0, none⟩) len cb _ HBd.out ho ht HG1.out).mono ?_
        rintro e w8 ⟨z1, q0, m0, r0, q1, m1, r1, rfl, hb⟩
        replace cI0 := bc hb ltI cI0
        replace cI1 := bc hb ltI cI1
        replace cI2 := bc hb ltI cI2
        replace ltI := bl hb ltI
        replace cP0 := bc hb ltP cP0
        replace cP1 := bc hb ltP cP1
        replace cP2 := bc hb ltP cP2
        replace cP3 := bc hb ltP cP3
        replace ltP := bl hb ltP
        replace HD := Lib.hid (HD.out.below hb)
        replace H1 := Lib.hid (H1.out.below hb)
        replace HBd := Lib.hid (HBd.out.below hb)
        replace hB := hB.trans (hb.mono hB.size)
        clear hb
        have hba : Below w8.heap.size w8 (w8.alloc (.cells #[.int .i64 z1, .slice q0 m0 r0, .slice q1 m1 r1] 28)) := (Below.refl _ _).alloc (Nat.le_refl _) _
        have nI0 := bc hba ltI cI0
        have nI1 := bc hba ltI cI1
        have nI2 := bc hba ltI cI2
        have nP0 := bc hba ltP cP0
        have nP1 := bc hba ltP cP1
        have nP2 := bc hba ltP cP2
        have nP3 := bc hba ltP cP3
        go_wp2_with fail
        clear hba nI0 nI1 nI2 nP0 nP1 nP2 nP3
        have hbx : Below w8.heap.size w8 (w8.alloc (.cells #[.int .i64 z1, .slice q0 m0 r0, .slice q1 m1 r1] 28)) := ((Below.refl _ _).alloc (Nat.le_refl _) _)
        generalize hWW : (w8.alloc (.cells #[.int .i64 z1, .slice q0 m0 r0, .slice q1 m1 r1] 28)) = w9 at *
        replace cI0 := bc hbx ltI cI0
        replace cI1 := bc hbx ltI cI1
        replace cI2 := bc hbx ltI cI2
        replace ltI := bl hbx ltI
        replace cP0 := bc hbx ltP cP0
        replace cP1 := bc hbx ltP cP1
        replace cP2 := bc hbx ltP cP2
        replace cP3 := bc hbx ltP cP3
        replace ltP := bl hbx ltP
        replace HD := Lib.hid (HD.out.below hbx)
        replace H1 := Lib.hid (H1.out.below hbx)
        replace HBd := Lib.hid (HBd.out.below hbx)
        have cG0 : w9.cell? ⟨w8.heap.size, 0, none⟩ = some (.int .i64 z1) := by subst hWW; go_simp
        have cG1 : w9.cell? ⟨w8.heap.size, 1, none⟩ = some (.slice q0 m0 r0) := by subst hWW; go_simp
        have cG2 : w9.cell? ⟨w8.heap.size, 2, none⟩ = some (.slice q1 m1 r1) := by subst hWW; go_simp
        have ltG : w8.heap.size < w9.heap.size := by subst hWW; simp
        replace hB := hB.trans (hbx.mono hB.size)
        clear hbx hWW
        refine (rdam t da _ 12 b1 len e1 _ H1.out ho ht HG2.out).mono ?_
        rintro e w10 ⟨z2, q2, m2, r2, q3, m3, r3, rfl, hb⟩
        replace cI0 := bc hb ltI cI0
        replace cI1 := bc hb ltI cI1
        replace cI2 := bc hb ltI cI2
        replace ltI := bl hb ltI
        replace cP0 := bc hb ltP cP0
        replace cP1 := bc hb ltP cP1
        replace cP2 := bc hb ltP cP2
        replace cP3 := bc hb ltP cP3
        replace ltP := bl hb ltP
        replace cG0 := bc hb ltG cG0
        replace cG1 := bc hb ltG cG1
        replace cG2 := bc hb ltG cG2
        replace ltG := bl hb ltG
        replace HD := Lib.hid (HD.out.below hb)
        replace H1 := Lib.hid (H1.out.below hb)
        replace HBd := Lib.hid (HBd.out.below hb)
        replace hB := hB.trans (hb.mono hB.size)
        clear hb
        obtain ⟨ab2, ao2, hae, hal, hac⟩ := HD.out.2.at hkm
        cases hae
        have y0 := hac kk hkm _ (Below.refl _ _)
        rw [HYb.out] at y0
        clear hac
        have hba : Below w10.heap.size w10 (w10.alloc (.cells #[.int .i64 z2, .slice q2 m2 r2, .slice q3 m3 r3] 28)) := (Below.refl _ _).alloc (Nat.le_refl _) _
        have nI0 := bc hba ltI cI0
        have nI1 := bc hba ltI cI1
        have nI2 := bc hba ltI cI2
        have nP0 := bc hba ltP cP0
        have nP1 := bc hba ltP cP1
        have nP2 := bc hba ltP cP2
        have nP3 := bc hba ltP cP3
        have nG0 := bc hba ltG cG0
        have nG1 := bc hba ltG cG1
        have nG2 := bc hba ltG cG2
        have ny0 := bc hba hal y0
        go_wp2_with fail
        clear hba nI0 nI1 nI2 nP0 nP1 nP2 nP3 nG0 nG1 nG2 ny0
        have hbx : Below w10.heap.size w10 (w10.alloc (.cells #[.int .i64 z2, .slice q2 m2 r2, .slice q3 m3 r3] 28)) := ((Below.refl _ _).alloc (Nat.le_refl _) _)
        generalize hWW : (w10.alloc (.cells #[.int .i64 z2, .slice q2 m2 r2, .slice q3 m3 r3] 28)) = w11 at *
        replace cI0 := bc hbx ltI cI0
        replace cI1 := bc hbx ltI cI1
        replace cI2 := bc hbx ltI cI2
        replace ltI := bl hbx ltI
        replace cP0 := bc hbx ltP cP0
        replace cP1 := bc hbx ltP cP1
        replace cP2 := bc hbx ltP cP2
        replace cP3 := bc hbx ltP cP3
        replace ltP := bl hbx ltP
        replace cG0 := bc hbx ltG cG0
        replace cG1 := bc hbx ltG cG1
        replace cG2 := bc hbx ltG cG2
        replace ltG := bl hbx ltG
        replace HD := Lib.hid (HD.out.below hbx)
        replace H1 := Lib.hid (H1.out.below hbx)
        replace HBd := Lib.hid (HBd.out.below hbx)
        have cK0 : w11.cell? ⟨w10.heap.size, 0, none⟩ = some (.int .i64 z2) := by subst hWW; go_simp
        have cK1 : w11.cell? ⟨w10.heap.size, 1, none⟩ = some (.slice q2 m2 r2) := by subst hWW; go_simp
        have cK2 : w11.cell? ⟨w10.heap.size, 2, none⟩ = some (.slice q3 m3 r3) := by subst hWW; go_simp
        have ltK : w10.heap.size < w11.heap.size := by subst hWW; simp
        replace hB := hB.trans (hbx.mono hB.size)
        clear hbx hWW
        clear y0 hal
        refine (rses t da _ b1 len e1 _ H1.out ho).mono ?_
        rintro e w12 ⟨gs, rfl, hgs, hb⟩
        replace cI0 := bc hb ltI cI0
        replace cI1 := bc hb ltI cI1
        replace cI2 := bc hb ltI cI2
        replace ltI := bl hb ltI
        replace cP0 := bc hb ltP cP0
        replace cP1 := bc hb ltP cP1
        replace cP2 := bc hb ltP cP2
        replace cP3 := bc hb ltP cP3
        replace ltP := bl hb ltP
        replace cG0 := bc hb ltG cG0
        replace cG1 := bc hb ltG cG1
        replace cG2 := bc hb ltG cG2
        replace ltG := bl hb ltG
        replace cK0 := bc hb ltK cK0
        replace cK1 := bc hb ltK cK1
        replace cK2 := bc hb ltK cK2
        replace ltK := bl hb ltK
        replace HD := Lib.hid (HD.out.below hb)
        replace H1 := Lib.hid (H1.out.below hb)
        replace HBd := Lib.hid (HBd.out.below hb)
        replace hB := hB.trans (hb.mono hB.size)
        have hgs2 : gs ≠ 0 := by intro h9; subst h9; simp at hgs
        have hgs3 : (gs != 0) = true := by simpa using hgs2
        clear hb
        have hba : Below w12.heap.size w12 (w12.alloc (.cells #[.int .i64 0, .slice none 0 0, .slice none 0 0] 28)) := (Below.refl _ _).alloc (Nat.le_refl _) _
        have nI0 := bc hba ltI cI0
        have nI1 := bc hba ltI cI1
        have nI2 := bc hba ltI cI2
        have nP0 := bc hba ltP cP0
        have nP1 := bc hba ltP cP1
        have nP2 := bc hba ltP cP2
        have nP3 := bc hba ltP cP3
        have nG0 := bc hba ltG cG0
        have nG1 := bc hba ltG cG1
        have nG2 := bc hba ltG cG2
        have nK0 := bc hba ltK cK0
        have nK1 := bc hba ltK cK1
        have nK2 := bc hba ltK cK2
        go_wp2_with fail
        clear hba nI0 nI1 nI2 nP0 nP1 nP2 nP3 nG0 nG1 nG2 nK0 nK1 nK2
        have hbx : Below w12.heap.size w12 (w12.alloc (.cells #[.int .i64 0, .slice none 0 0, .slice none 0 0] 28)) := ((Below.refl _ _).alloc (Nat.le_refl _) _)
        generalize hWW : (w12.alloc (.cells #[.int .i64 0, .slice none 0 0, .slice none 0 0] 28)) = w13 at *
        replace cI0 := bc hbx ltI cI0
        replace cI1 := bc hbx ltI cI1
        replace cI2 := bc hbx ltI cI2
        replace ltI := bl hbx ltI
        replace cP0 := bc hbx ltP cP0
        replace cP1 := bc hbx ltP cP1
        replace cP2 := bc hbx ltP cP2
        replace cP3 := bc hbx ltP cP3
        replace ltP := bl hbx ltP
        replace cG0 := bc hbx ltG cG0
        replace cG1 := bc hbx ltG cG1
        replace cG2 := bc hbx ltG cG2
        replace ltG := bl hbx ltG
        replace cK0 := bc hbx ltK cK0
        replace cK1 := bc hbx ltK cK1
        replace cK2 := bc hbx ltK cK2
        replace ltK := bl hbx ltK
        replace HD := Lib.hid (HD.out.below hbx)
        replace H1 := Lib.hid (H1.out.below hbx)
        replace HBd := Lib.hid (HBd.out.below hbx)
        have cO0 : w13.cell? ⟨w12.heap.size, 0, none⟩ = some (.int .i64 0) := by subst hWW; go_simp
        have cO1 : w13.cell? ⟨w12.heap.size, 1, none⟩ = some (.slice none 0 0) := by subst hWW; go_simp
        have cO2 : w13.cell? ⟨w12.heap.size, 2, none⟩ = some (.slice none 0 0) := by subst hWW; go_simp
        have ltO : w12.heap.size < w13.heap.size := by subst hWW; simp
        replace hB := hB.trans (hbx.mono hB.size)
        clear hbx hWW
        refine (awake_any _).mono ?_
        rintro e w14 ⟨rfl, hb⟩
        replace cI0 := bc hb ltI cI0
        replace cI1 := bc hb ltI cI1
        replace cI2 := bc hb ltI cI2
        replace ltI := bl hb ltI
        replace cP0 := bc hb ltP cP0
        replace cP1 := bc hb ltP cP1
        replace cP2 := bc hb ltP cP2
        replace cP3 := bc hb ltP cP3
        replace ltP := bl hb ltP
        replace cG0 := bc hb ltG cG0
        replace cG1 := bc hb ltG cG1
        replace cG2 := bc hb ltG cG2
        replace ltG := bl hb ltG
        replace cK0 := bc hb ltK cK0
        replace cK1 := bc hb ltK cK1
        replace cK2 := bc hb ltK cK2
        replace ltK := bl hb ltK
        replace cO0 := bc hb ltO cO0
        replace cO1 := bc hb ltO cO1
        replace cO2 := bc hb ltO cO2
        replace ltO := bl hb ltO
        replace HD := Lib.hid (HD.out.below hb)
        replace H1 := Lib.hid (H1.out.below hb)
        replace HBd := Lib.hid (HBd.out.below hb)
        replace hB := hB.trans (hb.mono hB.size)
        clear hb
        go_wp2_with fail
        go_ret
        exact ⟨rfl, hB⟩
    · by_cases hsm : sm = su
      · have HG1 := Lib.hid (show (12 : Int) = if su = sumU 5 t (da.set kk x) then 0 else 12 by rw [if_neg (fun h9 => hxy (HSt.out.1 h9).symm)])
        have HG2 := Lib.hid (show (0 : Int) = if sm = sumU 5 t da then 0 else 12 by rw [HSu.out, if_pos hsm])
        have hne : ((x.toNat : Int) == (yb.toNat : Int)) = false := by
          simp only [beq_eq_false_iff_ne, ne_eq, Int.ofNat_inj]
          exact fun h9 => hxy (UInt8.toNat_inj.1 h9)
        have hne2 : x.toNat ≠ yb.toNat := fun h9 => hxy (UInt8.toNat_inj.1 h9)
        have hne3 : ((x.toNat : Int) != (yb.toNat : Int)) = true := by rw [bne, hne]; rfl
        have hne4 : (x.toNat != yb.toNat) = true := by simpa using hne2
        have HSM := Lib.hid hsm
        subst hsm
        refine (rdam t (da.set kk _) _ 12 (some ⟨gB, 0, none⟩) len cb _ HBd.out ho ht HG1.out).mono ?_
        rintro e w8 ⟨z1, q0, m0, r0, q1, m1, r1, rfl, hb⟩
        replace cI0 := bc hb ltI cI0
        replace cI1 := bc hb ltI cI1
        replace cI2 := bc hb ltI cI2
        replace ltI := bl hb ltI
        replace cP0 := bc hb ltP cP0
        replace cP1 := bc hb ltP cP1
        replace cP2 := bc hb ltP cP2
        replace cP3 := bc hb ltP cP3
        replace ltP := bl hb ltP
        replace HD := Lib.hid (HD.out.below hb)
        replace H1 := Lib.hid (H1.out.below hb)
        replace HBd := Lib.hid (HBd.out.below hb)
        replace hB := hB.trans (hb.mono hB.size)
        clear hb
        have hba : Below w8.heap.size w8 (w8.alloc (.cells #[.int .i64 z1, .slice q0 m0 r0, .slice q1 m1 r1] 28)) := (Below.refl _ _).alloc (Nat.le_refl _) _
        have nI0 := bc hba ltI cI0
        have nI1 := bc hba ltI cI1
        have nI2 := bc hba ltI cI2
        have nP0 := bc hba ltP cP0
        have nP1 := bc hba ltP cP1
        have nP2 := bc hba ltP cP2
        have nP3 := bc hba ltP cP3
        go_wp2_with fail
        clear hba nI0 nI1 nI2 nP0 nP1 nP2 nP3
        have hbx : Below w8.heap.size w8 (w8.alloc (.cells #[.int .i64 z1, .slice q0 m0 r0, .slice q1 m1 r1] 28)) := ((Below.refl _ _).alloc (Nat.le_refl _) _)
        generalize hWW : (w8.alloc (.cells #[.int .i64 z1, .slice q0 m0 r0, .slice q1 m1 r1] 28)) = w9 at *
        replace cI0 := bc hbx ltI cI0
        replace cI1 := bc hbx ltI cI1
        replace cI2 := bc hbx ltI cI2
        replace ltI := bl hbx ltI
        replace cP0 := bc hbx ltP cP0
        replace cP1 := bc hbx ltP cP1
        replace cP2 := bc hbx ltP cP2
        replace cP3 := bc hbx ltP cP3
        replace ltP := bl hbx ltP
        replace HD := Lib.hid (HD.out.below hbx)
        replace H1 := Lib.hid (H1.out.below hbx)
        replace HBd := Lib.hid (HBd.out.below hbx)
        have cG0 : w9.cell? ⟨w8.heap.size, 0, none⟩ = some (.int .i64 z1) := by subst hWW; go_simp
        have cG1 : w9.cell? ⟨w8.heap.size, 1, none⟩ = some (.slice q0 m0 r0) := by subst hWW; go_simp
        have cG2 : w9.cell? ⟨w8.heap.size, 2, none⟩ = some (.slice q1 m1 r1) := by subst hWW; go_simp
        have ltG : w8.heap.size < w9.heap.size := by subst hWW; simp
        replace hB := hB.trans (hbx.mono hB.size)
        clear hbx hWW
        refine (rdam t da _ 0 b1 len e1 _ H1.out ho ht HG2.out).mono ?_
        rintro e w10 ⟨z2, q2, m2, r2, q3, m3, r3, rfl, hb⟩
        replace cI0 := bc hb ltI cI0
        replace cI1 := bc hb ltI cI1
        replace cI2 := bc hb ltI cI2
        replace ltI := bl hb ltI
        replace cP0 := bc hb ltP cP0
        replace cP1 := bc hb ltP cP1
        replace cP2 := bc hb ltP cP2
        replace cP3 := bc hb ltP cP3
        replace ltP := bl hb ltP
        replace cG0 := bc hb ltG cG0
        replace cG1 := bc hb ltG cG1
        replace cG2 := bc hb ltG cG2
        replace ltG := bl hb ltG
        replace HD := Lib.hid (HD.out.below hb)
        replace H1 := Lib.hid (H1.out.below hb)
        replace HBd := Lib.hid (HBd.out.below hb)
        replace hB := hB.trans (hb.mono hB.size)
        clear hb
        obtain ⟨ab2, ao2, hae, hal, hac⟩ := HD.out.2.at hkm
        cases hae
        have y0 := hac kk hkm _ (Below.refl _ _)
        rw [HYb.out] at y0
        clear hac
        have hba : Below w10.heap.size w10 (w10.alloc (.cells #[.int .i64 z2, .slice q2 m2 r2, .slice q3 m3 r3] 28)) := (Below.refl _ _).alloc (Nat.le_refl _) _
        have nI0 := bc hba ltI cI0
        have nI1 := bc hba ltI cI1
        have nI2 := bc hba ltI cI2
        have nP0 := bc hba ltP cP0
        have nP1 := bc hba ltP cP1
        have nP2 := bc hba ltP cP2
        have nP3 := bc hba ltP cP3
        have nG0 := bc hba ltG cG0
        have nG1 := bc hba ltG cG1
        have nG2 := bc hba ltG cG2
        have ny0 := bc hba hal y0
        go_wp2_with fail
        clear hba nI0 nI1 nI2 nP0 nP1 nP2 nP3 nG0 nG1 nG2 ny0
        have hbx : Below w10.heap.size w10 (w10.alloc (.cells #[.int .i64 z2, .slice q2 m2 r2, .slice q3 m3 r3] 28)) := ((Below.refl _ _).alloc (Nat.le_refl _) _)
        generalize hWW : (w10.alloc (.cells #[.int .i64 z2, .slice q2 m2 r2, .slice q3 m3 r3] 28)) = w11 at *
        replace cI0 := bc hbx ltI cI0
        replace cI1 := bc hbx ltI cI1
        replace cI2 := bc hbx ltI cI2
        replace ltI := bl hbx ltI
        replace cP0 := bc hbx ltP cP0
        replace cP1 := bc hbx ltP cP1
        replace cP2 := bc hbx ltP cP2
        replace cP3 := bc hbx ltP cP3
        replace ltP := bl hbx ltP
        replace cG0 := bc hbx ltG cG0
        replace cG1 := bc hbx ltG cG1
        replace cG2 := bc hbx ltG cG2
        replace ltG := bl hbx ltG
        replace HD := Lib.hid (HD.out.below hbx)
        replace H1 := Lib.hid (H1.out.below hbx)
        replace HBd := Lib.hid (HBd.out.below hbx)
        have cK0 : w11.cell? ⟨w10.heap.size, 0, none⟩ = some (.int .i64 z2) := by subst hWW; go_simp
        have cK1 : w11.cell? ⟨w10.heap.size, 1, none⟩ = some (.slice q2 m2 r2) := by subst hWW; go_simp
        have cK2 : w11.cell? ⟨w10.heap.size, 2, none⟩ = some (.slice q3 m3 r3) := by subst hWW; go_simp
        have ltK : w10.heap.size < w11.heap.size := by subst hWW; simp
        replace hB := hB.trans (hbx.mono hB.size)
        clear hbx hWW
        clear y0 hal
        refine (rses t da _ b1 len e1 _ H1.out ho).mono ?_
        rintro e w12 ⟨gs, rfl, hgs, hb⟩
        replace cI0 := bc hb ltI cI0
        replace cI1 := bc hb ltI cI1
        replace cI2 := bc hb ltI cI2
        replace ltI := bl hb ltI
        replace cP0 := bc hb ltP cP0
        replace cP1 := bc hb ltP cP1
        replace cP2 := bc hb ltP cP2
        replace cP3 := bc hb ltP cP3
        replace ltP := bl hb ltP
        replace cG0 := bc hb ltG cG0
        replace cG1 := bc hb ltG cG1
        replace cG2 := bc hb ltG cG2
        replace ltG := bl hb ltG
        replace cK0 := bc hb ltK cK0
        replace cK1 := bc hb ltK cK1
        replace cK2 := bc hb ltK cK2
        replace ltK := bl hb ltK
        replace HD := Lib.hid (HD.out.below hb)
        replace H1 := Lib.hid (H1.out.below hb)
        replace HBd := Lib.hid (HBd.out.below hb)
        replace hB := hB.trans (hb.mono hB.size)
        have hgs2 : gs ≠ 0 := by intro h9; subst h9; simp at hgs
        have hgs3 : (gs != 0) = true := by simpa using hgs2
        clear hb
        have hba : Below w12.heap.size w12 (w12.alloc (.cells #[.int .i64 0, .slice none 0 0, .slice none 0 0] 28)) := (Below.refl _ _).alloc (Nat.le_refl _) _
        have nI0 := bc hba ltI cI0
        have nI1 := bc hba ltI cI1
        have nI2 := bc hba ltI cI2
        have nP0 := bc hba ltP cP0
        have nP1 := bc hba ltP cP1
        have nP2 := bc hba ltP cP2
        have nP3 := bc hba ltP cP3
        have nG0 := bc hba ltG cG0
        have nG1 := bc hba ltG cG1
        have nG2 := bc hba ltG cG2
        have nK0 := bc hba ltK cK0
        have nK1 := bc hba ltK cK1
        have nK2 := bc hba ltK cK2
        go_wp2_with fail
        clear hba nI0 nI1 nI2 nP0 nP1 nP2 nP3 nG0 nG1 nG2 nK0 nK1 nK2
        have hbx : Below w12.heap.size w12 (w12.alloc (.cells #[.int .i64 0, .slice none 0 0, .slice none 0 0] 28)) := ((Below.refl _ _).alloc (Nat.le_refl _) _)
        generalize hWW : (w12.alloc (.cells #[.int .i64 0, .slice none 0 0, .slice none 0 0] 28)) = w13 at *
        replace cI0 := bc hbx ltI cI0
        replace cI1 := bc hbx ltI cI1
        replace cI2 := bc hbx ltI cI2
        replace ltI := bl hbx ltI
        replace cP0 := bc hbx ltP cP0
        replace cP1 := bc hbx ltP cP1
        replace cP2 := bc hbx ltP cP2
        replace cP3 := bc hbx ltP cP3
        replace ltP := bl hbx ltP
        replace cG0 := bc hbx ltG cG0
        replace cG1 := bc hbx ltG cG1
        replace cG2 := bc hbx ltG cG2
        replace ltG := bl hbx ltG
        replace cK0 := bc hbx ltK cK0
        replace cK1 := bc hbx ltK cK1
        replace cK2 := bc hbx ltK cK2
        replace ltK := bl hbx ltK
        replace HD := Lib.hid (HD.out.below hbx)
        replace H1 := Lib.hid (H1.out.below hbx)
        replace HBd := Lib.hid (HBd.out.below hbx)
        have cO0 : w13.cell? ⟨w12.heap.size, 0, none⟩ = some (.int .i64 0) := by subst hWW; go_simp
        have cO1 : w13.cell? ⟨w12.heap.size, 1, none⟩ = some (.slice none 0 0) := by subst hWW; go_simp
        have cO2 : w13.cell? ⟨w12.heap.size, 2, none⟩ = some (.slice none 0 0) := by subst hWW; go_simp
        have ltO : w12.heap.size < w13.heap.size := by subst hWW; simp
        replace hB := hB.trans (hbx.mono hB.size)
        clear hbx hWW
        refine (awake_any _).mono ?_
        rintro e w14 ⟨rfl, hb⟩
        replace cI0 := bc hb ltI cI0
        replace cI1 := bc hb ltI cI1
        replace cI2 := bc hb ltI cI2
        replace ltI := bl hb ltI
        replace cP0 := bc hb ltP cP0
        replace cP1 := bc hb ltP cP1
        replace cP2 := bc hb ltP cP2
        replace cP3 := bc hb ltP cP3
        replace ltP := bl hb ltP
        replace cG0 := bc hb ltG cG0
        replace cG1 := bc hb ltG cG1
        replace cG2 := bc hb ltG cG2
        replace ltG := bl hb ltG
        replace cK0 := bc hb ltK cK0
        replace cK1 := bc hb ltK cK1
        replace cK2 := bc hb ltK cK2
        replace ltK := bl hb ltK
        replace cO0 := bc hb ltO cO0
        replace cO1 := bc hb ltO cO1
        replace cO2 := bc hb ltO cO2
        replace ltO := bl hb ltO
        replace HD := Lib.hid (HD.out.below hb)
        replace H1 := Lib.hid (H1.out.below hb)
        replace HBd := Lib.hid (HBd.out.below hb)
        replace hB := hB.trans (hb.mono hB.size)
        clear hb
        go_wp2_with fail
        go_ret
        exact ⟨rfl, hB⟩
      · have HG1 := Lib.hid (show (12 : Int) = if su = sumU 5 t (da.set kk x) then 0 else 12 by rw [if_neg (fun h9 => hxy (HSt.out.1 h9).symm)])
        have HG2 := Lib.hid (show (12 : Int) = if sm = sumU 5 t da then 0 else 12 by rw [HSu.out, if_neg hsm])
        have hne : ((x.toNat : Int) == (yb.toNat : Int)) = false := by
          simp only [beq_eq_false_iff_ne, ne_eq, Int.ofNat_inj]
          exact fun h9 => hxy (UInt8.toNat_inj.1 h9)
        have hne2 : x.toNat ≠ yb.toNat := fun h9 => hxy (UInt8.toNat_inj.1 h9)
        have hne3 : ((x.toNat : Int) != (yb.toNat : Int)) = true := by rw [bne, hne]; rfl
        have hne4 : (x.toNat != yb.toNat) = true := by simpa using hne2
        have hse : ((sm.toNat : Int) == (su.toNat : Int)) = false := by
          simp only [beq_eq_false_iff_ne, ne_eq, Int.ofNat_inj]
          exact fun h9 => hsm (UInt64.toNat_inj.1 h9)
        have hse2 : sm.toNat ≠ su.toNat := fun h9 => hsm (UInt64.toNat_inj.1 h9)
        have hse3 : ((sm.toNat : Int) != (su.toNat : Int)) = true := by rw [bne, hse]; rfl
        have hse4 : (sm.toNat != su.toNat) = true := by simpa using hse2
        refine (rdam t (da.set kk _) _ 12 (some ⟨gB, 0, none⟩) len cb _ HBd.out ho ht HG1.out).mono ?_
        rintro e w8 ⟨z1, q0, m0, r0, q1, m1, r1, rfl, hb⟩
        replace cI0 := bc hb ltI cI0
        replace cI1 := bc hb ltI cI1
        replace cI2 := bc hb ltI cI2
        replace ltI := bl hb ltI
        replace cP0 := bc hb ltP cP0
        replace cP1 := bc hb ltP cP1
        replace cP2 := bc hb ltP cP2
        replace cP3 := bc hb ltP cP3
        replace ltP := bl hb ltP
        replace HD := Lib.hid (HD.out.below hb)
        replace H1 := Lib.hid (H1.out.below hb)
        replace HBd := Lib.hid (HBd.out.below hb)
        replace hB := hB.trans (hb.mono hB.size)
        clear hb
        have hba : Below w8.heap.size w8 (w8.alloc (.cells #[.int .i64 z1, .slice q0 m0 r0, .slice q1 m1 r1] 28)) := (Below.refl _ _).alloc (Nat.le_refl _) _
        have nI0 := bc hba ltI cI0
        have nI1 := bc hba ltI cI1
        have nI2 := bc hba ltI cI2
        have nP0 := bc hba ltP cP0
        have nP1 := bc hba ltP cP1
        have nP2 := bc hba ltP cP2
        have nP3 := bc hba ltP cP3
        go_wp2_with fail
        clear hba nI0 nI1 nI2 nP0 nP1 nP2 nP3
        have hbx : Below w8.heap.size w8 (w8.alloc (.cells #[.int .i64 z1, .slice q0 m0 r0, .slice q1 m1 r1] 28)) := ((Below.refl _ _).alloc (Nat.le_refl _) _)
        generalize hWW : (w8.alloc (.cells #[.int .i64 z1, .slice q0 m0 r0, .slice q1 m1 r1] 28)) = w9 at *
        replace cI0 := bc hbx ltI cI0
        replace cI1 := bc hbx ltI cI1
        replace cI2 := bc hbx ltI cI2
        replace ltI := bl hbx ltI
        replace cP0 := bc hbx ltP cP0
        replace cP1 := bc hbx ltP cP1
        replace cP2 := bc hbx ltP cP2
        replace cP3 := bc hbx ltP cP3
        replace ltP := bl hbx ltP
        replace HD := Lib.hid (HD.out.below hbx)
        replace H1 := Lib.hid (H1.out.below hbx)
        replace HBd := Lib.hid (HBd.out.below hbx)
        have cG0 : w9.cell? ⟨w8.heap.size, 0, none⟩ = some (.int .i64 z1) := by subst hWW; go_simp
        have cG1 : w9.cell? ⟨w8.heap.size, 1, none⟩ = some (.slice q0 m0 r0) := by subst hWW; go_simp
        have cG2 : w9.cell? ⟨w8.heap.size, 2, none⟩ = some (.slice q1 m1 r1) := by subst hWW; go_simp
        have ltG : w8.heap.size < w9.heap.size := by subst hWW; simp
        replace hB := hB.trans (hbx.mono hB.size)
        clear hbx hWW
        refine (rdam t da _ 12 b1 len e1 _ H1.out ho ht HG2.out).mono ?_
        rintro e w10 ⟨z2, q2, m2, r2, q3, m3, r3, rfl, hb⟩
        replace cI0 := bc hb ltI cI0
        replace cI1 := bc hb ltI cI1
        replace cI2 := bc hb ltI cI2
        replace ltI := bl hb ltI
        replace cP0 := bc hb ltP cP0
        replace cP1 := bc hb ltP cP1
        replace cP2 := bc hb ltP cP2
        replace cP3 := bc hb ltP cP3
        replace ltP := bl hb ltP
        replace cG0 := bc hb ltG cG0
        replace cG1 := bc hb ltG cG1
        replace cG2 := bc hb ltG cG2
        replace ltG := bl hb ltG
        replace HD := Lib.hid (HD.out.below hb)
        replace H1 := Lib.hid (H1.out.below hb)
        replace HBd := Lib.hid (HBd.out.below hb)
        replace hB := hB.trans (hb.mono hB.size)
        clear hb
        obtain ⟨ab2, ao2, hae, hal, hac⟩ := HD.out.2.at hkm
        cases hae
        have y0 := hac kk hkm _ (Below.refl _ _)
        rw [HYb.out] at y0
        clear hac
        have hba : Below w10.heap.size w10 (w10.alloc (.cells #[.int .i64 z2, .slice q2 m2 r2, .slice q3 m3 r3] 28)) := (Below.refl _ _).alloc (Nat.le_refl _) _
        have nI0 := bc hba ltI cI0
        have nI1 := bc hba ltI cI1
        have nI2 := bc hba ltI cI2
        have nP0 := bc hba ltP cP0
        have nP1 := bc hba ltP cP1
        have nP2 := bc hba ltP cP2
        have nP3 := bc hba ltP cP3
        have nG0 := bc hba ltG cG0
        have nG1 := bc hba ltG cG1
        have nG2 := bc hba ltG cG2
        have ny0 := bc hba hal y0
        go_wp2_with fail
        clear hba nI0 nI1 nI2 nP0 nP1 nP2 nP3 nG0 nG1 nG2 ny0
        have hbx : Below w10.heap.size w10 (w10.alloc (.cells #[.int .i64 z2, .slice q2 m2 r2, .slice q3 m3 r3] 28)) := ((Below.refl _ _).alloc (Nat.le_refl _) _)
        generalize hWW : (w10.alloc (.cells #[.int .i64 z2, .slice q2 m2 r2, .slice q3 m3 r3] 28)) = w11 at *
        replace cI0 := bc hbx ltI cI0
        replace cI1 := bc hbx ltI cI1
        replace cI2 := bc hbx ltI cI2
        replace ltI := bl hbx ltI
        replace cP0 := bc hbx ltP cP0
        replace cP1 := bc hbx ltP cP1
        replace cP2 := bc hbx ltP cP2
        replace cP3 := bc hbx ltP cP3
        replace ltP := bl hbx ltP
        replace cG0 := bc hbx ltG cG0
        replace cG1 := bc hbx ltG cG1
        replace cG2 := bc hbx ltG cG2
        replace ltG := bl hbx ltG
        replace HD := Lib.hid (HD.out.below hbx)
        replace H1 := Lib.hid (H1.out.below hbx)
        replace HBd := Lib.hid (HBd.out.below hbx)
        have cK0 : w11.cell? ⟨w10.heap.size, 0, none⟩ = some (.int .i64 z2) := by subst hWW; go_simp
        have cK1 : w11.cell? ⟨w10.heap.size, 1, none⟩ = some (.slice q2 m2 r2) := by subst hWW; go_simp
        have cK2 : w11.cell? ⟨w10.heap.size, 2, none⟩ = some (.slice q3 m3 r3) := by subst hWW; go_simp
        have ltK : w10.heap.size < w11.heap.size := by subst hWW; simp
        replace hB := hB.trans (hbx.mono hB.size)
        clear hbx hWW
        clear y0 hal
        refine (rses t da _ b1 len e1 _ H1.out ho).mono ?_
        rintro e w12 ⟨gs, rfl, hgs, hb⟩
        replace cI0 := bc hb ltI cI0
        replace cI1 := bc hb ltI cI1
        replace cI2 := bc hb ltI cI2
        replace ltI := bl hb ltI
        replace cP0 := bc hb ltP cP0
        replace cP1 := bc hb ltP cP1
        replace cP2 := bc hb ltP cP2
        replace cP3 := bc hb ltP cP3
        replace ltP := bl hb ltP
        replace cG0 := bc hb ltG cG0
        replace cG1 := bc hb ltG cG1
        replace cG2 := bc hb ltG cG2
        replace ltG := bl hb ltG
        replace cK0 := bc hb ltK cK0
        replace cK1 := bc hb ltK cK1
        replace cK2 := bc hb ltK cK2
        replace ltK := bl hb ltK
        replace HD := Lib.hid (HD.out.below hb)
        replace H1 := Lib.hid (H1.out.below hb)
        replace HBd := Lib.hid (HBd.out.below hb)
        replace hB := hB.trans (hb.mono hB.size)
        have hgs2 : gs ≠ 0 := by intro h9; subst h9; simp at hgs
        have hgs3 : (gs != 0) = true := by simpa using hgs2
        clear hb
        have hba : Below w12.heap.size w12 (w12.alloc (.cells #[.int .i64 0, .slice none 0 0, .slice none 0 0] 28)) := (Below.refl _ _).alloc (Nat.le_refl _) _
        have nI0 := bc hba ltI cI0
        have nI1 := bc hba ltI cI1
        have nI2 := bc hba ltI cI2
        have nP0 := bc hba ltP cP0
        have nP1 := bc hba ltP cP1
        have nP2 := bc hba ltP cP2
        have nP3 := bc hba ltP cP3
        have nG0 := bc hba ltG cG0
        have nG1 := bc hba ltG cG1
        have nG2 := bc hba ltG cG2
        have nK0 := bc hba ltK cK0
        have nK1 := bc hba ltK cK1
        have nK2 := bc hba ltK cK2
        go_wp2_with fail
        clear hba nI0 nI1 nI2 nP0 nP1 nP2 nP3 nG0 nG1 nG2 nK0 nK1 nK2
        have hbx : Below w12.heap.size w12 (w12.alloc (.cells #[.int .i64 0, .slice none 0 0, .slice none 0 0] 28)) := ((Below.refl _ _).alloc (Nat.le_refl _) _)
        generalize hWW : (w12.alloc (.cells #[.int .i64 0, .slice none 0 0, .slice none 0 0] 28)) = w13 at *
        replace cI0 := bc hbx ltI cI0
        replace cI1 := bc hbx ltI cI1
        replace cI2 := bc hbx ltI cI2
        replace ltI := bl hbx ltI
        replace cP0 := bc hbx ltP cP0
        replace cP1 := bc hbx ltP cP1
        replace cP2 := bc hbx ltP cP2
        replace cP3 := bc hbx ltP cP3
        replace ltP := bl hbx ltP
        replace cG0 := bc hbx ltG cG0
        replace cG1 := bc hbx ltG cG1
        replace cG2 := bc hbx ltG cG2
        replace ltG := bl hbx ltG
        replace cK0 := bc hbx ltK cK0
        replace cK1 := bc hbx ltK cK1
        replace cK2 := bc hbx ltK cK2
        replace ltK := bl hbx ltK
        replace HD := Lib.hid (HD.out.below hbx)
        replace H1 := Lib.hid (H1.out.below hbx)
        replace HBd := Lib.hid (HBd.out.below hbx)
        have cO0 : w13.cell? ⟨w12.heap.size, 0, none⟩ = some (.int .i64 0) := by subst hWW; go_simp
        have cO1 : w13.cell? ⟨w12.heap.size, 1, none⟩ = some (.slice none 0 0) := by subst hWW; go_simp
        have cO2 : w13.cell? ⟨w12.heap.size, 2, none⟩ = some (.slice none 0 0) := by subst hWW; go_simp
        have ltO : w12.heap.size < w13.heap.size := by subst hWW; simp
        replace hB := hB.trans (hbx.mono hB.size)
        clear hbx hWW
        refine (awake_any _).mono ?_
        rintro e w14 ⟨rfl, hb⟩
        replace cI0 := bc hb ltI cI0
        replace cI1 := bc hb ltI cI1
        replace cI2 := bc hb ltI cI2
        replace ltI := bl hb ltI
        replace cP0 := bc hb ltP cP0
        replace cP1 := bc hb ltP cP1
        replace cP2 := bc hb ltP cP2
        replace cP3 := bc hb ltP cP3
        replace ltP := bl hb ltP
        replace cG0 := bc hb ltG cG0
        replace cG1 := bc hb ltG cG1
        replace cG2 := bc hb ltG cG2
        replace ltG := bl hb ltG
        replace cK0 := bc hb ltK cK0
        replace cK1 := bc hb ltK cK1
        replace cK2 := bc hb ltK cK2
        replace ltK := bl hb ltK
        replace cO0 := bc hb ltO cO0
        replace cO1 := bc hb ltO cO1
        replace cO2 := bc hb ltO cO2
        replace ltO := bl hb ltO
        replace HD := Lib.hid (HD.out.below hb)
        replace H1 := Lib.hid (H1.out.below hb)
        replace HBd := Lib.hid (HBd.out.below hb)
        replace hB := hB.trans (hb.mono hB.size)
        clear hb
        go_wp2_with fail
        go_ret
        exact ⟨rfl, hB⟩
set_option maxHeartbeats 16000000 in
theorem uploadDamage_gt (xs : List UInt8) (t v : Nat) (x : UInt8) (sm : UInt64) (a : Option Addr) (len cap : Nat) (w : World) (hx : Bytes w a len cap xs) (ht : t ≤ 65535) (hv : v ≤ 65535) (hm : 2000 < len) :
    Calls Try.prog 6 #[.slice a len cap, .int .u16 t, .int .u16 v, .int .u8 (x.toNat : Int), .int .u64 (sm.toNat : Int)] w fun e w' => e = .returned (.bool true) ∧ Below w.heap.size w w' := by
  have hmc : 2000 ≤ cap := Nat.le_trans (by omega) hx.2.1
  have HD := Lib.hid (hx.pre 2000 (by omega))
  have HL := Lib.hid (show (xs.take 2000).length = 2000 by rw [List.length_take, hx.1]; omega)
  generalize xs.take 2000 = da at *
  have hwt : IntKind.i64.wrap (t : Int) = t := by rw [IntWalk.i64_in _ (by omega)]
  have hwv : IntKind.i64.wrap (v : Int) = v := by rw [IntWalk.i64_in _ (by omega)]
  clear hx
  have hle : ¬ (len : Int) ≤ 2000 := by omega
  go_enter Try.func6, Try.ntmps6
  go_wp2_with fail
  refine (new_ok 5 _ (by decide)).mono ?_
  rintro e w1 ⟨rfl, hb⟩
  replace HD := Lib.hid (HD.out.below hb)
  have hB := hb
  clear hb
  have hba : Below w1.heap.size w1 (w1.alloc (.cells #[.int .i64 5, .slice none 0 0, .slice none 0 0] 28)) := (Below.refl _ _).alloc (Nat.le_refl _) _
  go_wp2_with fail
  clear hba
  have hbx : Below w1.heap.size w1 (w1.alloc (.cells #[.int .i64 5, .slice none 0 0, .slice none 0 0] 28)) := ((Below.refl _ _).alloc (Nat.le_refl _) _)
  generalize hWW : (w1.alloc (.cells #[.int .i64 5, .slice none 0 0, .slice none 0 0] 28)) = w2 at *
  replace HD := Lib.hid (HD.out.below hbx)
  have cI0 : w2.cell? ⟨w1.heap.size, 0, none⟩ = some (.int .i64 5) := by subst hWW; go_simp
  have cI1 : w2.cell? ⟨w1.heap.size, 1, none⟩ = some (.slice none 0 0) := by subst hWW; go_simp
  have cI2 : w2.cell? ⟨w1.heap.size, 2, none⟩ = some (.slice none 0 0) := by subst hWW; go_simp
  have ltI : w1.heap.size < w2.heap.size := by subst hWW; simp
  replace hB := hB.trans (hbx.mono hB.size)
  clear hbx hWW
  by_cases hn : 2000 = 0
  · exact absurd hn (by decide)
  · have h1m : 1 ≤ 2000 := by omega
    have ho : OkP 5 t 2000 := ⟨by decide, by omega, by omega, by omega, by omega, by omega⟩
    have dn : decide (0 < 2000) = true := decide_eq_true (by omega)
    refine (packet_ok 5 t da a 2000 cap _ HD.out ho).mono ?_
    rintro e w3 ⟨b1, e1, rfl, h1, hb⟩
    replace cI0 := bc hb ltI cI0
    replace cI1 := bc hb ltI cI1
    replace cI2 := bc hb ltI cI2
    replace ltI := bl hb ltI
    replace HD := Lib.hid (HD.out.below hb)
    replace hB := hB.trans (hb.mono hB.size)
    have H1 := Lib.hid h1
    generalize hsu : sumU 5 t da = su at *
    have HSu := Lib.hid hsu
    clear h1 hsu
    clear hb
    have hb4 : Below w3.heap.size w3 (w3.alloc (.cells #[.int .i64 5, .int .i64 t, .slice b1 2000 e1, .int .u64 (su.toNat : Int)] 35)) := (Below.refl _ _).alloc (Nat.le_refl _) _
    have hb5 : Below (w3.alloc (.cells #[.int .i64 5, .int .i64 t, .slice b1 2000 e1, .int .u64 (su.toNat : Int)] 35)).heap.size (w3.alloc (.cells #[.int .i64 5, .int .i64 t, .slice b1 2000 e1, .int .u64 (su.toNat : Int)] 35)) ((w3.alloc (.cells #[.int .i64 5, .int .i64 t, .slice b1 2000 e1, .int .u64 (su.toNat : Int)] 35)).alloc (.cells #[] 5)) := (Below.refl _ _).alloc (Nat.le_refl _) _
    have hz4 : (w3.alloc (.cells #[.int .i64 5, .int .i64 t, .slice b1 2000 e1, .int .u64 (su.toNat : Int)] 35)).heap.size = w3.heap.size + 1 := by simp
    have HO := Lib.hid (show Owns ((w3.alloc (.cells #[.int .i64 5, .int .i64 t, .slice b1 2000 e1, .int .u64 (su.toNat : Int)] 35)).alloc (.cells #[] 5)) (w3.alloc (.cells #[.int .i64 5, .int .i64 t, .slice b1 2000 e1, .int .u64 (su.toNat : Int)] 35)).heap.size 5 (.slice (some ⟨(w3.alloc (.cells #[.int .i64 5, .int .i64 t, .slice b1 2000 e1, .int .u64 (su.toNat : Int)] 35)).heap.size, 0, none⟩) 0 0) [] from ⟨rfl, .inr ⟨(w3.alloc (.cells #[.int .i64 5, .int .i64 t, .slice b1 2000 e1, .int .u64 (su.toNat : Int)] 35)).heap.size, 0, #[], rfl, Nat.le_refl _, heap_alloc_new _ _, Nat.le_refl _, by simp [maxLen], rfl, rfl⟩⟩)
    rw [hz4] at HO
    have HT := Lib.hid ((H1.out.below hb4).below hb5)
    have hs5 : (w3.alloc (.cells #[.int .i64 5, .int .i64 t, .slice b1 2000 e1, .int .u64 (su.toNat : Int)] 35)).heap.size ≤ ((w3.alloc (.cells #[.int .i64 5, .int .i64 t, .slice b1 2000 e1, .int .u64 (su.toNat : Int)] 35)).alloc (.cells #[] 5)).heap.size := hb5.size
    rw [hz4] at hs5
    have hb35 := hb4.trans (hb5.mono hb4.size)
    clear hb4 hb5
    go_wp2_with (at_builtin; go_must (
         refine wpList_app rfl _ _ 22 rfl (w3.heap.size + 1) 5 (.int .u8 0) 1 Try.underlying22 infoByte rfl (.slice (some ⟨w3.heap.size + 1, 0, none⟩) 0 0) [] rfl HO.out b1 2000 e1 (bvs da) rfl (by rw [bvs_length]; exact HL.out) HT.out.vals (bvs_one _) (by simp only [List.length_nil]; omega) (by simp only [List.length_nil, maxLen]; omega) hs5 fun v1 w6 h1 h2 => ?_
         have hP46 : Below (w3.alloc (.cells #[.int .i64 5, .int .i64 t, .slice b1 2000 e1, .int .u64 (su.toNat : Int)] 35)).heap.size (w3.alloc (.cells #[.int .i64 5, .int .i64 t, .slice b1 2000 e1, .int .u64 (su.toNat : Int)] 35)) ((w3.alloc (.cells #[.int .i64 5, .int .i64 t, .slice b1 2000 e1, .int .u64 (su.toNat : Int)] 35)).alloc (.cells #[] 5)) := (Below.refl _ _).alloc (Nat.le_refl _) _
         have hB46 : Below (w3.alloc (.cells #[.int .i64 5, .int .i64 t, .slice b1 2000 e1, .int .u64 (su.toNat : Int)] 35)).heap.size (w3.alloc (.cells #[.int .i64 5, .int .i64 t, .slice b1 2000 e1, .int .u64 (su.toNat : Int)] 35)) w6 := hP46.trans (h2.below (by rw [hz4]; exact hs5) (fun j hj => by simp [Value.ownBlock] at hj; rw [hz4]; omega))
         have hP34 : Below w3.heap.size w3 (w3.alloc (.cells #[.int .i64 5, .int .i64 t, .slice b1 2000 e1, .int .u64 (su.toNat : Int)] 35)) := (Below.refl _ _).alloc (Nat.le_refl _) _
         have hB36 : Below w3.heap.size w3 w6 := hP34.trans (hB46.mono hP34.size)
         have h1' : Owns w6 (w3.heap.size + 1) 5 v1 (bvs da) := by simpa using h1
         obtain ⟨gB, cb, rfl, hgB, hgl⟩ : ∃ gB cb, v1 = .slice (some ⟨gB, 0, none⟩) 2000 cb ∧ w3.heap.size + 1 ≤ gB ∧ gB < w6.heap.size := by
           rcases h1'.form2 with ⟨-, h0⟩ | ⟨gB, cb, h0, -, -, h5, h6⟩
           · have := HL.out
             have h9 : (bvs da).length = 0 := by rw [h0]; rfl
             rw [bvs_length] at h9; omega
           · exact ⟨gB, cb, by rw [h0, bvs_length, HL.out], h5, h6⟩
         obtain ⟨kk, hkk⟩ : ∃ kk, kk = v % 2000 := ⟨_, rfl⟩
         have hkm : kk < 2000 := by rw [hkk]; exact Nat.mod_lt _ (by omega)
         have e9 : (v : Int) % 2000 = kk := by omega
         have e8 : Int.tmod (v : Int) 2000 = kk := by rw [Int.tmod_eq_emod_of_nonneg (by omega)]; exact e9
         have hnn : 2000 ≠ 0 := by omega
         have hkl : kk < da.length := by rw [HL.out]; exact hkm
         have cg := h1'.cell kk hkm
         rw [bvs_at da kk hkl] at cg
         have fg := h1'.free kk
         have h8 := h1'.store kk (bv x)
         rw [bvs_set] at h8
         obtain ⟨ax, nx, cx, hex, hbx⟩ := h8.bytes
         cases hex
         have HBd := Lib.hid (show Bytes (w6.setCell ⟨gB, kk, none⟩ (.int .u8 (x.toNat : Int))) (some ⟨gB, 0, none⟩) 2000 cb (da.set kk x) from hbx)
         have hB47 : Below (w3.alloc (.cells #[.int .i64 5, .int .i64 t, .slice b1 2000 e1, .int .u64 (su.toNat : Int)] 35)).heap.size (w3.alloc (.cells #[.int .i64 5, .int .i64 t, .slice b1 2000 e1, .int .u64 (su.toNat : Int)] 35)) (w6.setCell ⟨gB, kk, none⟩ (.int .u8 (x.toNat : Int))) := hB46.setCell (p := ⟨gB, kk, none⟩) (by rw [hz4]; exact hgB) _
         have hB37 : Below w3.heap.size w3 (w6.setCell ⟨gB, kk, none⟩ (.int .u8 (x.toNat : Int))) := hB36.setCell (p := ⟨gB, kk, none⟩) (show w3.heap.size ≤ gB by omega) _
         have HSt := Lib.hid (sumU_set 5 t da kk hkl x)
         rw [HSu.out] at HSt
         clear hbx h8 h1' h1 h2 hP46 hB46 hP34 hB36 HO HT hs5 hb35 hkk HL hkl
         have cP0 : (w3.alloc (.cells #[.int .i64 5, .int .i64 t, .slice b1 2000 e1, .int .u64 (su.toNat : Int)] 35)).cell? ⟨w3.heap.size, 0, none⟩ = some (.int .i64 5) := by go_simp
         have cP1 : (w3.alloc (.cells #[.int .i64 5, .int .i64 t, .slice b1 2000 e1, .int .u64 (su.toNat : Int)] 35)).cell? ⟨w3.heap.size, 1, none⟩ = some (.int .i64 t) := by go_simp
         have cP2 : (w3.alloc (.cells #[.int .i64 5, .int .i64 t, .slice b1 2000 e1, .int .u64 (su.toNat : Int)] 35)).cell? ⟨w3.heap.size, 2, none⟩ = some (.slice b1 2000 e1) := by go_simp
         have cP3 : (w3.alloc (.cells #[.int .i64 5, .int .i64 t, .slice b1 2000 e1, .int .u64 (su.toNat : Int)] 35)).cell? ⟨w3.heap.size, 3, none⟩ = some (.int .u64 (su.toNat : Int)) := by go_simp
         have ltP : w3.heap.size < (w3.alloc (.cells #[.int .i64 5, .int .i64 t, .slice b1 2000 e1, .int .u64 (su.toNat : Int)] 35)).heap.size := by simp
         replace cP0 := bc hB47 ltP cP0
         replace cP1 := bc hB47 ltP cP1
         replace cP2 := bc hB47 ltP cP2
         replace cP3 := bc hB47 ltP cP3
         replace ltP := bl hB47 ltP
         replace cI0 := bc hB37 ltI cI0
         replace cI1 := bc hB37 ltI cI1
         replace cI2 := bc hB37 ltI cI2
         replace ltI := bl hB37 ltI
         replace HD := Lib.hid (HD.out.below hB37)
         replace H1 := Lib.hid (H1.out.below hB37)
         replace hB := hB.trans (hB37.mono hB.size)
         clear hB37 hB47 hz4
         obtain ⟨ab, ao, rfl, -, -⟩ := HD.out.2.at hkm
         generalize hyb : da.getD kk 0 = yb at *
         have HYb := Lib.hid hyb
         clear hyb))
    clear cg fg
    generalize (w6.setCell ⟨gB, kk, none⟩ (.int .u8 (x.toNat : Int))) = w7 at *
    by_cases hxy : x = yb
    · by_cases hsm : sm = su
      · have HG1 := Lib.hid (show (0 : Int) = if su = sumU 5 t (da.set kk x) then 0 else 12 by rw [if_pos (HSt.out.2 hxy.symm)])
        have HG2 := Lib.hid (show (0 : Int) = if sm = sumU 5 t da then 0 else 12 by rw [HSu.out, if_pos hsm])
        have HXY := Lib.hid hxy
        subst hxy
        have HSM := Lib.hid hsm
        subst hsm
        refine (rdam t (da.set kk _) _ 0 (some ⟨gB, 0, none⟩) 2000 cb _ HBd.out ho ht HG1.out).mono ?_
        rintro e w8 ⟨z1, q0, m0, r0, q1, m1, r1, rfl, hb⟩
        replace cI0 := bc hb ltI cI0
        replace cI1 := bc hb ltI cI1
        replace cI2 := bc hb ltI cI2
        replace ltI := bl hb ltI
        replace cP0 := bc hb ltP cP0
        replace cP1 := bc hb ltP cP1
        replace cP2 := bc hb ltP cP2
        replace cP3 := bc hb ltP cP3
        replace ltP := bl hb ltP
        replace HD := Lib.hid (HD.out.below hb)
        replace H1 := Lib.hid (H1.out.below hb)
        replace HBd := Lib.hid (HBd.out.below hb)
        replace hB := hB.trans (hb.mono hB.size)
        clear hb
        have hba : Below w8.heap.size w8 (w8.alloc (.cells #[.int .i64 z1, .slice q0 m0 r0, .slice q1 m1 r1] 28)) := (Below.refl _ _).alloc (Nat.le_refl _) _
        have nI0 := bc hba ltI cI0
        have nI1 := bc hba ltI cI1
        have nI2 := bc hba ltI cI2
        have nP0 := bc hba ltP cP0
        have nP1 := bc hba ltP cP1
        have nP2 := bc hba ltP cP2
        have nP3 := bc hba ltP cP3
        go_wp2_with fail
        clear hba nI0 nI1 nI2 nP0 nP1 nP2 nP3
        have hbx : Below w8.heap.size w8 (w8.alloc (.cells #[.int .i64 z1, .slice q0 m0 r0, .slice q1 m1 r1] 28)) := ((Below.refl _ _).alloc (Nat.le_refl _) _)
        generalize hWW : (w8.alloc (.cells #[.int .i64 z1, .slice q0 m0 r0, .slice q1 m1 r1] 28)) = w9 at *
        replace cI0 := bc hbx ltI cI0
        replace cI1 := bc hbx ltI cI1
        replace cI2 := bc hbx ltI cI2
        replace ltI := bl hbx ltI
        replace cP0 := bc hbx ltP cP0
        replace cP1 := bc hbx ltP cP1
        replace cP2 := bc hbx ltP cP2
        replace cP3 := bc hbx ltP cP3
        replace ltP := bl hbx ltP
        replace HD := Lib.hid (HD.out.below hbx)
        replace H1 := Lib.hid (H1.out.below hbx)
        replace HBd := Lib.hid (HBd.out.below hbx)
        have cG0 : w9.cell? ⟨w8.heap.size, 0, none⟩ = some (.int .i64 z1) := by subst hWW; go_simp
        have cG1 : w9.cell? ⟨w8.heap.size, 1, none⟩ = some (.slice q0 m0 r0) := by subst hWW; go_simp
        have cG2 : w9.cell? ⟨w8.heap.size, 2, none⟩ = some (.slice q1 m1 r1) := by subst hWW; go_simp
        have ltG : w8.heap.size < w9.heap.size := by subst hWW; simp
        replace hB := hB.trans (hbx.mono hB.size)
        clear hbx hWW
        refine (rdam t da _ 0 b1 2000 e1 _ H1.out ho ht HG2.out).mono ?_
        rintro e w10 ⟨z2, q2, m2, r2, q3, m3, r3, rfl, hb⟩
        replace cI0 := bc hb ltI cI0
        replace cI1 := bc hb ltI cI1
        replace cI2 := bc hb ltI cI2
        replace ltI := bl hb ltI
        replace cP0 := bc hb ltP cP0
        replace cP1 := bc hb ltP cP1
        replace cP2 := bc hb ltP cP2
        replace cP3 := bc hb ltP cP3
        replace ltP := bl hb ltP
        replace cG0 := bc hb ltG cG0
        replace cG1 := bc hb ltG cG1
        replace cG2 := bc hb ltG cG2
        replace ltG := bl hb ltG
        replace HD := Lib.hid (HD.out.below hb)
        replace H1 := Lib.hid (H1.out.below hb)
        replace HBd := Lib.hid (HBd.out.below hb)
        replace hB := hB.trans (hb.mono hB.size)
        clear hb
        obtain ⟨ab2, ao2, hae, hal, hac⟩ := HD.out.2.at hkm
        cases hae
        have y0 := hac kk hkm _ (Below.refl _ _)
        rw [HYb.out] at y0
        clear hac
        have hba : Below w10.heap.size w10 (w10.alloc (.cells #[.int .i64 z2, .slice q2 m2 r2, .slice q3 m3 r3] 28)) := (Below.refl _ _).alloc (Nat.le_refl _) _
        have nI0 := bc hba ltI cI0
        have nI1 := bc hba ltI cI1
        have nI2 := bc hba ltI cI2
        have nP0 := bc hba ltP cP0
        have nP1 := bc hba ltP cP1
        have nP2 := bc hba ltP cP2
        have nP3 := bc hba ltP cP3
        have nG0 := bc hba ltG cG0
        have nG1 := bc hba ltG cG1
        have nG2 := bc hba ltG cG2
        have ny0 := bc hba hal y0
        go_wp2_with fail
        clear hba nI0 nI1 nI2 nP0 nP1 nP2 nP3 nG0 nG1 nG2 ny0
        have hbx : Below w10.heap.size w10 (w10.alloc (.cells #[.int .i64 z2, .slice q2 m2 r2, .slice q3 m3 r3] 28)) := ((Below.refl _ _).alloc (Nat.le_refl _) _)
        generalize hWW : (w10.alloc (.cells #[.int .i64 z2, .slice q2 m2 r2, .slice q3 m3 r3] 28)) = w11 at *
        replace cI0 := bc hbx ltI cI0
        replace cI1 := bc hbx ltI cI1
        replace cI2 := bc hbx ltI cI2
        replace ltI := bl hbx ltI
        replace cP0 := bc hbx ltP cP0
        replace cP1 := bc hbx ltP cP1
        replace cP2 := bc hbx ltP cP2
        replace cP3 := bc hbx ltP cP3
        replace ltP := bl hbx ltP
        replace cG0 := bc hbx ltG cG0
        replace cG1 := bc hbx ltG cG1
        replace cG2 := bc hbx ltG cG2
        replace ltG := bl hbx ltG
        replace HD := Lib.hid (HD.out.below hbx)
        replace H1 := Lib.hid (H1.out.below hbx)
        replace HBd := Lib.hid (HBd.out.below hbx)
        have cK0 : w11.cell? ⟨w10.heap.size, 0, none⟩ = some (.int .i64 z2) := by subst hWW; go_simp
        have cK1 : w11.cell? ⟨w10.heap.size, 1, none⟩ = some (.slice q2 m2 r2) := by subst hWW; go_simp
        have cK2 : w11.cell? ⟨w10.heap.size, 2, none⟩ = some (.slice q3 m3 r3) := by subst hWW; go_simp
        have ltK : w10.heap.size < w11.heap.size := by subst hWW; simp
        replace hB := hB.trans (hbx.mono hB.size)
        clear hbx hWW
        clear y0 hal
        refine (rses t da _ b1 2000 e1 _ H1.out ho).mono ?_
        rintro e w12 ⟨gs, rfl, hgs, hb⟩
        replace cI0 := bc hb ltI cI0
        replace cI1 := bc hb ltI cI1
        replace cI2 := bc hb ltI cI2
        replace ltI := bl hb ltI
        replace cP0 := bc hb ltP cP0
        replace cP1 := bc hb ltP cP1
        replace cP2 := bc hb ltP cP2
        replace cP3 := bc hb ltP cP3
        replace ltP := bl hb ltP
        replace cG0 := bc hb ltG cG0
        replace cG1 := bc hb ltG cG1
        replace cG2 := bc hb ltG cG2
        replace ltG := bl hb ltG
        replace cK0 := bc hb ltK cK0
        replace cK1 := bc hb ltK cK1
        replace cK2 := bc hb ltK cK2
        replace ltK := bl hb ltK
        replace HD := Lib.hid (HD.out.below hb)
        replace H1 := Lib.hid (H1.out.below hb)
        replace HBd := Lib.hid (HBd.out.below hb)
        replace hB := hB.trans (hb.mono hB.size)
        have hgs2 : gs ≠ 0 := by intro h9; subst h9; simp at hgs
        have hgs3 : (gs != 0) = true := by simpa using hgs2
        clear hb
        have hba : Below w12.heap.size w12 (w12.alloc (.cells #[.int .i64 0, .slice none 0 0, .slice none 0 0] 28)) := (Below.refl _ _).alloc (Nat.le_refl _) _
        have nI0 := bc hba ltI cI0
        have nI1 := bc hba ltI cI1
        have nI2 := bc hba ltI cI2
        have nP0 := bc hba ltP cP0
        have nP1 := bc hba ltP cP1
        have nP2 := bc hba ltP cP2
        have nP3 := bc hba ltP cP3
        have nG0 := bc hba ltG cG0
        have nG1 := bc hba ltG cG1
        have nG2 := bc hba ltG cG2
        have nK0 := bc hba ltK cK0
        have nK1 := bc hba ltK cK1
        have nK2 := bc hba ltK cK2
        go_wp2_with fail
        clear hba nI0 nI1 nI2 nP0 nP1 nP2 nP3 nG0 nG1 nG2 nK0 nK1 nK2
        have hbx : Below w12.heap.size w12 (w12.alloc (.cells #[.int .i64 0, .slice none 0 0, .slice none 0 0] 28)) := ((Below.refl _ _).alloc (Nat.le_refl _) _)
        generalize hWW : (w12.alloc (.cells #[.int .i64 0, .slice none 0 0, .slice none 0 0] 28)) = w13 at *
        replace cI0 := bc hbx ltI cI0
        replace cI1 := bc hbx ltI cI1
        replace cI2 := bc hbx ltI cI2
        replace ltI := bl hbx ltI
        replace cP0 := bc hbx ltP cP0
        replace cP1 := bc hbx ltP cP1
        replace cP2 := bc hbx ltP cP2
        replace cP3 := bc hbx ltP cP3
        replace ltP := bl hbx ltP
        replace cG0 := bc hbx ltG cG0
        replace cG1 := bc hbx ltG cG1
        replace cG2 := bc hbx ltG cG2
        replace ltG := bl hbx ltG
        replace cK0 := bc hbx ltK cK0
        replace cK1 := bc hbx ltK cK1
        replace cK2 := bc hbx ltK cK2
        replace ltK := bl hbx ltK
        replace HD := Lib.hid (HD.out.below hbx)
        replace H1 := Lib.hid (H1.out.below hbx)
        replace HBd := Lib.hid (HBd.out.below hbx)
        have cO0 : w13.cell? ⟨w12.heap.size, 0, none⟩ = some (.int .i64 0) := by subst hWW; go_simp
        have cO1 : w13.cell? ⟨w12.heap.size, 1, none⟩ = some (.slice none 0 0) := by subst hWW; go_simp
        have cO2 : w13.cell? ⟨w12.heap.size, 2, none⟩ = some (.slice none 0 0) := by subst hWW; go_simp
        have ltO : w12.heap.size < w13.heap.size := by subst hWW; simp
        replace hB := hB.trans (hbx.mono hB.size)
        clear hbx hWW
        refine (awake_any _).mono ?_
        rintro e w14 ⟨rfl, hb⟩
        replace cI0 := bc hb ltI cI0
        replace cI1 := bc hb ltI cI1
        replace cI2 := bc hb ltI cI2
        replace ltI := bl hb ltI
        replace cP0 := bc hb ltP cP0
        replace cP1 := bc hb ltP cP1
        replace cP2 := bc hb ltP cP2
        replace cP3 := bc hb ltP cP3
        replace ltP := bl hb ltP
        replace cG0 := bc hb ltG cG0
        replace cG1 := bc hb ltG cG1
        replace cG2 := bc hb ltG cG2
        replace ltG := bl hb ltG
        replace cK0 := bc hb ltK cK0
        replace cK1 := bc hb ltK cK1
        replace cK2 := bc hb ltK cK2
        replace ltK := bl hb ltK
        replace cO0 := bc hb ltO cO0
        replace cO1 := bc hb ltO cO1
        replace cO2 := bc hb ltO cO2
        replace ltO := bl hb ltO
        replace HD := Lib.hid (HD.out.below hb)
        replace H1 := Lib.hid (H1.out.below hb)
        replace HBd := Lib.hid (HBd.out.below hb)
        replace hB := hB.trans (hb.mono hB.size)
        clear hb
        go_wp2_with fail
        go_ret
        exact ⟨rfl, hB⟩
      · have HG1 := Lib.hid (show (0 : Int) = if su = sumU 5 t (da.set kk x) then 0 else 12 by rw [if_pos (HSt.out.2 hxy.symm)])
        have HG2 := Lib.hid (show (12 : Int) = if sm = sumU 5 t da then 0 else 12 by rw [HSu.out, if_neg hsm])
        have HXY := Lib.hid hxy
        subst hxy
        have hse : ((sm.toNat : Int) == (su.toNat : Int)) = false := by
          simp only [beq_eq_false_iff_ne, ne_eq, Int.ofNat_inj]
          exact fun h9 => hsm (UInt64.toNat_inj.1 h9)
        have hse2 : sm.toNat ≠ su.toNat := fun h9 => hsm (UInt64.toNat_inj.1 h9)
        have hse3 : ((sm.toNat : Int) != (su.toNat : Int)) = true := by rw [bne, hse]; rfl
        have hse4 : (sm.toNat != su.toNat) = true := by simpa using hse2
        refine (rdam t (da.set kk _) _ 0 (some ⟨gB, 0, none⟩) 2000 cb _ HBd.out ho ht HG1.out).mono ?_
        rintro e w8 ⟨z1, q0, m0, r0, q1, m1, r1, rfl, hb⟩
        replace cI0 := bc hb ltI cI0
        replace cI1 := bc hb ltI cI1
        replace cI2 := bc hb ltI cI2
        replace ltI := bl hb ltI
        replace cP0 := bc hb ltP cP0
        replace cP1 := bc hb ltP cP1
        replace cP2 := bc hb ltP cP2
        replace cP3 := bc hb ltP cP3
        replace ltP := bl hb ltP
        replace HD := Lib.hid (HD.out.below hb)
        replace H1 := Lib.hid (H1.out.below hb)
        replace HBd := Lib.hid (HBd.out.below hb)
        replace hB := hB.trans (hb.mono hB.size)
        clear hb
        have hba : Below w8.heap.size w8 (w8.alloc (.cells #[.int .i64 z1, .slice q0 m0 r0, .slice q1 m1 r1] 28)) := (Below.refl _ _).alloc (Nat.le_refl _) _
        have nI0 := bc hba ltI cI0
        have nI1 := bc hba ltI cI1
        have nI2 := bc hba ltI cI2
        have nP0 := bc hba ltP cP0
        have nP1 := bc hba ltP cP1
        have nP2 := bc hba ltP cP2
        have nP3 := bc hba ltP cP3
        go_wp2_with fail
        clear hba nI0 nI1 nI2 nP0 nP1 nP2 nP3
        have hbx : Below w8.heap.size w8 (w8.alloc (.cells #[.int .i64 z1, .slice q0 m0 r0, .slice q1 m1 r1] 28)) := ((Below.refl _ _).alloc (Nat.le_refl _) _)
        generalize hWW : (w8.alloc (.cells #[.int .i64 z1, .slice q0 m0 r0, .slice q1 m1 r1] 28)) = w9 at *
        replace cI0 := bc hbx ltI cI0
        replace cI1 := bc hbx ltI cI1
        replace cI2 := bc hbx ltI cI2
        replace ltI := bl hbx ltI
        replace cP0 := bc hbx ltP cP0
        replace cP1 := bc hbx ltP cP1
        replace cP2 := bc hbx ltP cP2
        replace cP3 := bc hbx ltP cP3
        replace ltP := bl hbx ltP
        replace HD := Lib.hid (HD.out.below hbx)
        replace H1 := Lib.hid (H1.out.below hbx)
        replace HBd := Lib.hid (HBd.out.below hbx)
        have cG0 : w9.cell? ⟨w8.heap.size, 0, none⟩ = some (.int .i64 z1) := by subst hWW; go_simp
        have cG1 : w9.cell? ⟨w8.heap.size, 1, none⟩ = some (.slice q0 m0 r0) := by subst hWW; go_simp
        have cG2 : w9.cell? ⟨w8.heap.size, 2, none⟩ = some (.slice q1 m1 r1) := by subst hWW; go_simp
        have ltG : w8.heap.size < w9.heap.size := by subst hWW; simp
        replace hB := hB.trans (hbx.mono hB.size)
        clear hbx hWW
        refine (rdam t da _ 12 b1 2000 e1 _ H1.out ho ht HG2.out).mono ?_
        rintro e w10 ⟨z2, q2, m2, r2, q3, m3, r3, rfl, hb⟩
        replace cI0 := bc hb ltI cI0
        replace cI1 := bc hb ltI cI1
        replace cI2 := bc hb ltI cI2
        replace ltI := bl hb ltI
        replace cP0 := bc hb ltP cP0
        replace cP1 := bc hb ltP cP1
        replace cP2 := bc hb ltP cP2
        replace cP3 := bc hb ltP cP3
        replace ltP := bl hb ltP
        replace cG0 := bc hb ltG cG0
        replace cG1 := bc hb ltG cG1
        replace cG2 := bc hb ltG cG2
        replace ltG := bl hb ltG
        replace HD := Lib.hid (HD.out.below hb)
        replace H1 := Lib.hid (H1.out.below hb)
        replace HBd := Lib.hid (HBd.out.below hb)
        replace hB := hB.trans (hb.mono hB.size)
        clear hb
        obtain ⟨ab2, ao2, hae, hal, hac⟩ := HD.out.2.at hkm
        cases hae
        have y0 := hac kk hkm _ (Below.refl _ _)
        rw [HYb.out] at y0
        clear hac
        have hba : Below w10.heap.size w10 (w10.alloc (.cells #[.int .i64 z2, .slice q2 m2 r2, .slice q3 m3 r3] 28)) := (Below.refl _ _).alloc (Nat.le_refl _) _
        have nI0 := bc hba ltI cI0
        have nI1 := bc hba ltI cI1
        have nI2 := bc hba ltI cI2
        have nP0 := bc hba ltP cP0
        have nP1 := bc hba ltP cP1
        have nP2 := bc hba ltP cP2
        have nP3 := bc hba ltP cP3
        have nG0 := bc hba ltG cG0
        have nG1 := bc hba ltG cG1
        have nG2 := bc hba ltG cG2
        have ny0 := bc hba hal y0
        go_wp2_with fail
        clear hba nI0 nI1 nI2 nP0 nP1 nP2 nP3 nG0 nG1 nG2 ny0
        have hbx : Below w10.heap.size w10 (w10.alloc (.cells #[.int .i64 z2, .slice q2 m2 r2, .slice q3 m3 r3] 28)) := ((Below.refl _ _).alloc (Nat.le_refl _) _)
        generalize hWW : (w10.alloc (.cells #[.int .i64 z2, .slice q2 m2 r2, .slice q3 m3 r3] 28)) = w11 at *
        replace cI0 := bc hbx ltI cI0
        replace cI1 := bc hbx ltI cI1
        replace cI2 := bc hbx ltI cI2
        replace ltI := bl hbx ltI
        replace cP0 := bc hbx ltP cP0
        replace cP1 := bc hbx ltP cP1
        replace cP2 := bc hbx ltP cP2
        replace cP3 := bc hbx ltP cP3
        replace ltP := bl hbx ltP
        replace cG0 := bc hbx ltG cG0
        replace cG1 := bc hbx ltG cG1
        replace cG2 := bc hbx ltG cG2
        replace ltG := bl hbx ltG
        replace HD := Lib.hid (HD.out.below hbx)
        replace H1 := Lib.hid (H1.out.below hbx)
        replace HBd := Lib.hid (HBd.out.below hbx)
        have cK0 : w11.cell? ⟨w10.heap.size, 0, none⟩ = some (.int .i64 z2) := by subst hWW; go_simp
        have cK1 : w11.cell? ⟨w10.heap.size, 1, none⟩ = some (.slice q2 m2 r2) := by subst hWW; go_simp
        have cK2 : w11.cell? ⟨w10.heap.size, 2, none⟩ = some (.slice q3 m3 r3) := by subst hWW; go_simp
        have ltK : w10.heap.size < w11.heap.size := by subst hWW; simp
        replace hB := hB.trans (hbx.mono hB.size)
        clear hbx hWW
        clear y0 hal
        refine (rses t da _ b1 2000 e1 _ H1.out ho).mono ?_
        rintro e w12 ⟨gs, rfl, hgs, hb⟩
        replace cI0 := bc hb ltI cI0
        replace cI1 := bc hb ltI cI1
        replace cI2 := bc hb ltI cI2
        replace ltI := bl hb ltI
        replace cP0 := bc hb ltP cP0
        replace cP1 := bc hb ltP cP1
        replace cP2 := bc hb ltP cP2
        replace cP3 := bc hb ltP cP3
        replace ltP := bl hb ltP
        replace cG0 := bc hb ltG cG0
        replace cG1 := bc hb ltG cG1
        replace cG2 := bc hb ltG cG2
        replace ltG := bl hb ltG
        replace cK0 := bc hb ltK cK0
        replace cK1 := bc hb ltK cK1
        replace cK2 := bc hb ltK cK2
        replace ltK := bl hb ltK
        replace HD := Lib.hid (HD.out.below hb)
        replace H1 := Lib.hid (H1.out.below hb)
        replace HBd := Lib.hid (HBd.out.below hb)
        replace hB := hB.trans (hb.mono hB.size)
        have hgs2 : gs ≠ 0 := by intro h9; subst h9; simp at hgs
        have hgs3 : (gs != 0) = true := by simpa using hgs2
        clear hb
        have hba : Below w12.heap.size w12 (w12.alloc (.cells #[.int .i64 0, .slice none 0 0, .slice none 0 0] 28)) := (Below.refl _ _).alloc (Nat.le_refl _) _
        have nI0 := bc hba ltI cI0
        have nI1 := bc hba ltI cI1
        have nI2 := bc hba ltI cI2
        have nP0 := bc hba ltP cP0
        have nP1 := bc hba ltP cP1
        have nP2 := bc hba ltP cP2
        have nP3 := bc hba ltP cP3
        have nG0 := bc hba ltG cG0
        have nG1 := bc hba ltG cG1
        have nG2 := bc hba ltG cG2
        have nK0 := bc hba ltK cK0
        have nK1 := bc hba ltK cK1
        have nK2 := bc hba ltK cK2
        go_wp2_with fail
        clear hba nI0 nI1 nI2 nP0 nP1 nP2 nP3 nG0 nG1 nG2 nK0 nK1 nK2
        have hbx : Below w12.heap.size w12 (w12.alloc (.cells #[.int .i64 0, .slice none 0 0, .slice none 0 0] 28)) := ((Below.refl _ _).alloc (Nat.le_refl _) _)
        generalize hWW : (w12.alloc (.cells #[.int .i64 0, .slice none 0 0, .slice none 0 0] 28)) = w13 at *
        replace cI0 := bc hbx ltI cI0
        replace cI1 := bc hbx ltI cI1
        replace cI2 := bc hbx ltI cI2
        replace ltI := bl hbx ltI
        replace cP0 := bc hbx ltP cP0
        replace cP1 := bc hbx ltP cP1
        replace cP2 := bc hbx ltP cP2
        replace cP3 := bc hbx ltP cP3
        replace ltP := bl hbx ltP
        replace cG0 := bc hbx ltG cG0
        replace cG1 := bc hbx ltG cG1
        replace cG2 := bc hbx ltG cG2
        replace ltG := bl hbx ltG
        replace cK0 := bc hbx ltK cK0
        replace cK1 := bc hbx ltK cK1
        replace cK2 := bc hbx ltK cK2
        replace ltK := bl hbx ltK
        replace HD := Lib.hid (HD.out.below hbx)
        replace H1 := Lib.hid (H1.out.below hbx)
        replace HBd := Lib.hid (HBd.out.below hbx)
        have cO0 : w13.cell? ⟨w12.heap.size, 0, none⟩ = some (.int .i64 0) := by subst hWW; go_simp
        have cO1 : w13.cell? ⟨w12.heap.size, 1, none⟩ = some (.slice none 0 0) := by subst hWW; go_simp
        have cO2 : w13.cell? ⟨w12.heap.size, 2, none⟩ = some (.slice none 0 0) := by subst hWW; go_simp
        have ltO : w12.heap.size < w13.heap.size := by subst hWW; simp
        replace hB := hB.trans (hbx.mono hB.size)
        clear hbx hWW
        refine (awake_any _).mono ?_
        rintro e w14 ⟨rfl, hb⟩
        replace cI0 := bc hb ltI cI0
        replace cI1 := bc hb ltI cI1
        replace cI2 := bc hb ltI cI2
        replace ltI := bl hb ltI
        replace cP0 := bc hb ltP cP0
        replace cP1 := bc hb ltP cP1
        replace cP2 := bc hb ltP cP2
        replace cP3 := bc hb ltP cP3
        replace ltP := bl hb ltP
        replace cG0 := bc hb ltG cG0
        replace cG1 := bc hb ltG cG1
        replace cG2 := bc hb ltG cG2
        replace ltG := bl hb ltG
        replace cK0 := bc hb ltK cK0
        replace cK1 := bc hb ltK cK1
        replace cK2 := bc hb ltK cK2
        replace ltK := bl hb ltK
        replace cO0 := bc hb ltO cO0
        replace cO1 := bc hb ltO cO1
        replace cO2 := bc hb ltO cO2
        replace ltO := bl hb ltO
        replace HD := Lib.hid (HD.out.below hb)
        replace H1 := Lib.hid (H1.out.below hb)
        replace HBd := Lib.hid (HBd.out.below hb)
        replace hB := hB.trans (hb.mono hB.size)
        clear hb
        go_wp2_with fail
        go_ret
        exact ⟨rfl, hB⟩
    · by_cases hsm : sm = su
      · have HG1 := Lib.hid (show (12 : Int) = if su = sumU 5 t (da.set kk x) then 0 else 12 by rw [if_neg (fun h9 => hxy (HSt.out.1 h9).symm)])
        have HG2 := Lib.hid (show (0 : Int) = if sm = sumU 5 t da then 0 else 12 by rw [HSu.out, if_pos hsm])
        have hne : ((x.toNat : Int) == (yb.toNat : Int)) = false := by
          simp only [beq_eq_false_iff_ne, ne_eq, Int.ofNat_inj]
          exact fun h9 => hxy (UInt8.toNat_inj.1 h9)
        have hne2 : x.toNat ≠ yb.toNat := fun h9 => hxy (UInt8.toNat_inj.1 h9)
        have hne3 : ((x.toNat : Int) != (yb.toNat : Int)) = true := by rw [bne, hne]; rfl
        have hne4 : (x.toNat != yb.toNat) = true := by simpa using hne2
        have HSM := Lib.hid hsm
        subst hsm
        refine (rdam t (da.set kk _) _ 12 (some ⟨gB, 0, none⟩) 2000 cb _ HBd.out ho ht HG1.out).mono ?_
        rintro e w8 ⟨z1, q0, m0, r0, q1, m1, r1, rfl, hb⟩
        replace cI0 := bc hb ltI cI0
        replace cI1 := bc hb ltI cI1
        replace cI2 := bc hb ltI cI2
        replace ltI := bl hb ltI
        replace cP0 := bc hb ltP cP0
        replace cP1 := bc hb ltP cP1
        replace cP2 := bc hb ltP cP2
        replace cP3 := bc hb ltP cP3
        replace ltP := bl hb ltP
        replace HD := Lib.hid (HD.out.below hb)
        replace H1 := Lib.hid (H1.out.below hb)
        replace HBd := Lib.hid (HBd.out.below hb)
        replace hB := hB.trans (hb.mono hB.size)
        clear hb
        have hba : Below w8.heap.size w8 (w8.alloc (.cells #[.int .i64 z1, .slice q0 m0 r0, .slice q1 m1 r1] 28)) := (Below.refl _ _).alloc (Nat.le_refl _) _
        have nI0 := bc hba ltI cI0
        have nI1 := bc hba ltI cI1
        have nI2 := bc hba ltI cI2
        have nP0 := bc hba ltP cP0
        have nP1 := bc hba ltP cP1
        have nP2 := bc hba ltP cP2
        have nP3 := bc hba ltP cP3
        go_wp2_with fail
        clear hba nI0 nI1 nI2 nP0 nP1 nP2 nP3
        have hbx : Below w8.heap.size w8 (w8.alloc (.cells #[.int .i64 z1, .slice q0 m0 r0, .slice q1 m1 r1] 28)) := ((Below.refl _ _).alloc (Nat.le_refl _) _)
        generalize hWW : (w8.alloc (.cells #[.int .i64 z1, .slice q0 m0 r0, .slice q1 m1 r1] 28)) = w9 at *
        replace cI0 := bc hbx ltI cI0
        replace cI1 := bc hbx ltI cI1
        replace cI2 := bc hbx ltI cI2
        replace ltI := bl hbx ltI
        replace cP0 := bc hbx ltP cP0
        replace cP1 := bc hbx ltP cP1
        replace cP2 := bc hbx ltP cP2
        replace cP3 := bc hbx ltP cP3
        replace ltP := bl hbx ltP
        replace HD := Lib.hid (HD.out.below hbx)
        replace H1 := Lib.hid (H1.out.below hbx)
        replace HBd := Lib.hid (HBd.out.below hbx)
        have cG0 : w9.cell? ⟨w8.heap.size, 0, none⟩ = some (.int .i64 z1) := by subst hWW; go_simp
        have cG1 : w9.cell? ⟨w8.heap.size, 1, none⟩ = some (.slice q0 m0 r0) := by subst hWW; go_simp
        have cG2 : w9.cell? ⟨w8.heap.size, 2, none⟩ = some (.slice q1 m1 r1) := by subst hWW; go_simp
        have ltG : w8.heap.size < w9.heap.size := by subst hWW; simp
        replace hB := hB.trans (hbx.mono hB.size)
        clear hbx hWW
        refine (rdam t da _ 0 b1 2000 e1 _ H1.out ho ht HG2.out).mono ?_
        rintro e w10 ⟨z2, q2, m2, r2, q3, m3, r3, rfl, hb⟩
        replace cI0 := bc hb ltI cI0
        replace cI1 := bc hb ltI cI1
        replace cI2 := bc hb ltI cI2
        replace ltI := bl hb ltI
        replace cP0 := bc hb ltP cP0
        replace cP1 := bc hb ltP cP1
        replace cP2 := bc hb ltP cP2
        replace cP3 := bc hb ltP cP3
        replace ltP := bl hb ltP
        replace cG0 := bc hb ltG cG0
        replace cG1 := bc hb ltG cG1
        replace cG2 := bc hb ltG cG2
        replace ltG := bl hb ltG
        replace HD := Lib.hid (HD.out.below hb)
        replace H1 := Lib.hid (H1.out.below hb)
        replace HBd := Lib.hid (HBd.out.below hb)
        replace hB := hB.trans (hb.mono hB.size)
        clear hb
        obtain ⟨ab2, ao2, hae, hal, hac⟩ := HD.out.2.at hkm
        cases hae
        have y0 := hac kk hkm _ (Below.refl _ _)
        rw [HYb.out] at y0
        clear hac
        have hba : Below w10.heap.size w10 (w10.alloc (.cells #[.int .i64 z2, .slice q2 m2 r2, .slice q3 m3 r3] 28)) := (Below.refl _ _).alloc (Nat.le_refl _) _
        have nI0 := bc hba ltI cI0
        have nI1 := bc hba ltI cI1
        have nI2 := bc hba ltI cI2
        have nP0 := bc hba ltP cP0
        have nP1 := bc hba ltP cP1
        have nP2 := bc hba ltP cP2
        have nP3 := bc hba ltP cP3
        have nG0 := bc hba ltG cG0
        have nG1 := bc hba ltG cG1
        have nG2 := bc hba ltG cG2
        have ny0 := bc hba hal y0
        go_wp2_with fail
        clear hba nI0 nI1 nI2 nP0 nP1 nP2 nP3 nG0 nG1 nG2 ny0
        have hbx : Below w10.heap.size w10 (w10.alloc (.cells #[.int .i64 z2, .slice q2 m2 r2, .slice q3 m3 r3] 28)) := ((Below.refl _ _).alloc (Nat.le_refl _) _)
        generalize hWW : (w10.alloc (.cells #[.int .i64 z2, .slice q2 m2 r2, .slice q3 m3 r3] 28)) = w11 at *
        replace cI0 := bc hbx ltI cI0
        replace cI1 := bc hbx ltI cI1
        replace cI2 := bc hbx ltI cI2
        replace ltI := bl hbx ltI
        replace cP0 := bc hbx ltP cP0
        replace cP1 := bc hbx ltP cP1
        replace cP2 := bc hbx ltP cP2
        replace cP3 := bc hbx ltP cP3
        replace ltP := bl hbx ltP
        replace cG0 := bc hbx ltG cG0
        replace cG1 := bc hbx ltG cG1
        replace cG2 := bc hbx ltG cG2
        replace ltG := bl hbx ltG
        replace HD := Lib.hid (HD.out.below hbx)
        replace H1 := Lib.hid (H1.out.below hbx)
        replace HBd := Lib.hid (HBd.out.below hbx)
        have cK0 : w11.cell? ⟨w10.heap.size, 0, none⟩ = some (.int .i64 z2) := by subst hWW; go_simp
        have cK1 : w11.cell? ⟨w10.heap.size, 1, none⟩ = some (.slice q2 m2 r2) := by subst hWW; go_simp
        have cK2 : w11.cell? ⟨w10.heap.size, 2, none⟩ = some (.slice q3 m3 r3) := by subst hWW; go_simp
        have ltK : w10.heap.size < w11.heap.size := by subst hWW; simp
        replace hB := hB.trans (hbx.mono hB.size)
        clear hbx hWW
        clear y0 hal
        refine (rses t da _ b1 2000 e1 _ H1.out ho).mono ?_
        rintro e w12 ⟨gs, rfl, hgs, hb⟩
        replace cI0 := bc hb ltI cI0
        replace cI1 := bc hb ltI cI1
        replace cI2 := bc hb ltI cI2
        replace ltI := bl hb ltI
        replace cP0 := bc hb ltP cP0
        replace cP1 := bc hb ltP cP1
        replace cP2 := bc hb ltP cP2
        replace cP3 := bc hb ltP cP3
        replace ltP := bl hb ltP
        replace cG0 := bc hb ltG cG0
        replace cG1 := bc hb ltG cG1
        replace cG2 := bc hb ltG cG2
        replace ltG := bl hb ltG
        replace cK0 := bc hb ltK cK0
        replace cK1 := bc hb ltK cK1
        replace cK2 := bc hb ltK cK2
        replace ltK := bl hb ltK
        replace HD := Lib.hid (HD.out.below hb)
        replace H1 := Lib.hid (H1.out.below hb)
        replace HBd := Lib.hid (HBd.out.below hb)
        replace hB := hB.trans (hb.mono hB.size)
        have hgs2 : gs ≠ 0 := by intro h9; subst h9; simp at hgs
        have hgs3 : (gs != 0) = true := by simpa using hgs2
        clear hb
        have hba : Below w12.heap.size w12 (w12.alloc (.cells #[.int .i64 0, .slice none 0 0, .slice none 0 0] 28)) := (Below.refl _ _).alloc (Nat.le_refl _) _
        have nI0 := bc hba ltI cI0
        have nI1 := bc hba ltI cI1
        have nI2 := bc hba ltI cI2
        have nP0 := bc hba ltP cP0
        have nP1 := bc hba ltP cP1
        have nP2 := bc hba ltP cP2
        have nP3 := bc hba ltP cP3
        have nG0 := bc hba ltG cG0
        have nG1 := bc hba ltG cG1
        have nG2 := bc hba ltG cG2
        have nK0 := bc hba ltK cK0
        have nK1 := bc hba ltK cK1
        have nK2 := bc hba ltK cK2
        go_wp2_with fail
        clear hba nI0 nI1 nI2 nP0 nP1 nP2 nP3 nG0 nG1 nG2 nK0 nK1 nK2
        have hbx : Below w12.heap.size w12 (w12.alloc (.cells #[.int .i64 0, .slice none 0 0, .slice none 0 0] 28)) := ((Below.refl _ _).alloc (Nat.le_refl _) _)
        generalize hWW : (w12.alloc (.cells #[.int .i64 0, .slice none 0 0, .slice none 0 0] 28)) = w13 at *
        replace cI0 := bc hbx ltI cI0
        replace cI1 := bc hbx ltI cI1
        replace cI2 := bc hbx ltI cI2
        replace ltI := bl hbx ltI
        replace cP0 := bc hbx ltP cP0
        replace cP1 := bc hbx ltP cP1
        replace cP2 := bc hbx ltP cP2
        replace cP3 := bc hbx ltP cP3
        replace ltP := bl hbx ltP
        replace cG0 := bc hbx ltG cG0
        replace cG1 := bc hbx ltG cG1
        replace cG2 := bc hbx ltG cG2
        replace ltG := bl hbx ltG
        replace cK0 := bc hbx ltK cK0
        replace cK1 := bc hbx ltK cK1
        replace cK2 := bc hbx ltK cK2
        replace ltK := bl hbx ltK
        replace HD := Lib.hid (HD.out.below hbx)
        replace H1 := Lib.hid (H1.out.below hbx)
        replace HBd := Lib.hid (HBd.out.below hbx)
        have cO0 : w13.cell? ⟨w12.heap.size, 0, none⟩ = some (.int .i64 0) := by subst hWW; go_simp
        have cO1 : w13.cell? ⟨w12.heap.size, 1, none⟩ = some (.slice none 0 0) := by subst hWW; go_simp
        have cO2 : w13.cell? ⟨w12.heap.size, 2, none⟩ = some (.slice none 0 0) := by subst hWW; go_simp
        have ltO : w12.heap.size < w13.heap.size := by subst hWW; simp
        replace hB := hB.trans (hbx.mono hB.size)
        clear hbx hWW
        refine (awake_any _).mono ?_
        rintro e w14 ⟨rfl, hb⟩
        replace cI0 := bc hb ltI cI0
        replace cI1 := bc hb ltI cI1
        replace cI2 := bc hb ltI cI2
        replace ltI := bl hb ltI
        replace cP0 := bc hb ltP cP0
        replace cP1 := bc hb ltP cP1
        replace cP2 := bc hb ltP cP2
        replace cP3 := bc hb ltP cP3
        replace ltP := bl hb ltP
        replace cG0 := bc hb ltG cG0
        replace cG1 := bc hb ltG cG1
        replace cG2 := bc hb ltG cG2
        replace ltG := bl hb ltG
        replace cK0 := bc hb ltK cK0
        replace cK1 := bc hb ltK cK1
        replace cK2 := bc hb ltK cK2
        replace ltK := bl hb ltK
        replace cO0 := bc hb ltO cO0
        replace cO1 := bc hb ltO cO1
        replace cO2 := bc hb ltO cO2
        replace ltO := bl hb ltO
        replace HD := Lib.hid (HD.out.below hb)
        replace H1 := Lib.hid (H1.out.below hb)
        replace HBd := Lib.hid (HBd.out.below hb)
        replace hB := hB.trans (hb.mono hB.size)
        clear hb
        go_wp2_with fail
        go_ret
        exact ⟨rfl, hB⟩
      · have HG1 := Lib.hid (show (12 : Int) = if su = sumU 5 t (da.set kk x) then 0 else 12 by rw [if_neg (fun h9 => hxy (HSt.out.1 h9).symm)])
        have HG2 := Lib.hid (show (12 : Int) = if sm = sumU 5 t da then 0 else 12 by rw [HSu.out, if_neg hsm])
        have hne : ((x.toNat : Int) == (yb.toNat : Int)) = false := by
          simp only [beq_eq_false_iff_ne, ne_eq, Int.ofNat_inj]
          exact fun h9 => hxy (UInt8.toNat_inj.1 h9)
        have hne2 : x.toNat ≠ yb.toNat := fun h9 => hxy (UInt8.toNat_inj.1 h9)
        have hne3 : ((x.toNat : Int) != (yb.toNat : Int)) = true := by rw [bne, hne]; rfl
        have hne4 : (x.toNat != yb.toNat) = true := by simpa using hne2
        have hse : ((sm.toNat : Int) == (su.toNat : Int)) = false := by
          simp only [beq_eq_false_iff_ne, ne_eq, Int.ofNat_inj]
          exact fun h9 => hsm (UInt64.toNat_inj.1 h9)
        have hse2 : sm.toNat ≠ su.toNat := fun h9 => hsm (UInt64.toNat_inj.1 h9)
        have hse3 : ((sm.toNat : Int) != (su.toNat : Int)) = true := by rw [bne, hse]; rfl
        have hse4 : (sm.toNat != su.toNat) = true := by simpa using hse2
        refine (rdam t (da.set kk _) _ 12 (some ⟨gB, 0, none⟩) 2000 cb _ HBd.out ho ht HG1.out).mono ?_
        rintro e w8 ⟨z1, q0, m0, r0, q1, m1, r1, rfl, hb⟩
        replace cI0 := bc hb ltI cI0
        replace cI1 := bc hb ltI cI1
        replace cI2 := bc hb ltI cI2
        replace ltI := bl hb ltI
        replace cP0 := bc hb ltP cP0
        replace cP1 := bc hb ltP cP1
        replace cP2 := bc hb ltP cP2
        replace cP3 := bc hb ltP cP3
        replace ltP := bl hb ltP
        replace HD := Lib.hid (HD.out.below hb)
        replace H1 := Lib.hid (H1.out.below hb)
        replace HBd := Lib.hid (HBd.out.below hb)
        replace hB := hB.trans (hb.mono hB.size)
        clear hb
        have hba : Below w8.heap.size w8 (w8.alloc (.cells #[.int .i64 z1, .slice q0 m0 r0, .slice q1 m1 r1] 28)) := (Below.refl _ _).alloc (Nat.le_refl _) _
        have nI0 := bc hba ltI cI0
        have nI1 := bc hba ltI cI1
        have nI2 := bc hba ltI cI2
        have nP0 := bc hba ltP cP0
        have nP1 := bc hba ltP cP1
        have nP2 := bc hba ltP cP2
        have nP3 := bc hba ltP cP3
        go_wp2_with fail
        clear hba nI0 nI1 nI2 nP0 nP1 nP2 nP3
        have hbx : Below w8.heap.size w8 (w8.alloc (.cells #[.int .i64 z1, .slice q0 m0 r0, .slice q1 m1 r1] 28)) := ((Below.refl _ _).alloc (Nat.le_refl _) _)
        generalize hWW : (w8.alloc (.cells #[.int .i64 z1, .slice q0 m0 r0, .slice q1 m1 r1] 28)) = w9 at *
        replace cI0 := bc hbx ltI cI0
        replace cI1 := bc hbx ltI cI1
        replace cI2 := bc hbx ltI cI2
        replace ltI := bl hbx ltI
        replace cP0 := bc hbx ltP cP0
        replace cP1 := bc hbx ltP cP1
        replace cP2 := bc hbx ltP cP2
        replace cP3 := bc hbx ltP cP3
        replace ltP := bl hbx ltP
        replace HD := Lib.hid (HD.out.below hbx)
        replace H1 := Lib.hid (H1.out.below hbx)
        replace HBd := Lib.hid (HBd.out.below hbx)
        have cG0 : w9.cell? ⟨w8.heap.size, 0, none⟩ = some (.int .i64 z1) := by subst hWW; go_simp
        have cG1 : w9.cell? ⟨w8.heap.size, 1, none⟩ = some (.slice q0 m0 r0) := by subst hWW; go_simp
        have cG2 : w9.cell? ⟨w8.heap.size, 2, none⟩ = some (.slice q1 m1 r1) := by subst hWW; go_simp
        have ltG : w8.heap.size < w9.heap.size := by subst hWW; simp
        replace hB := hB.trans (hbx.mono hB.size)
        clear hbx hWW
        refine (rdam t da _ 12 b1 2000 e1 _ H1.out ho ht HG2.out).mono ?_
        rintro e w10 ⟨z2, q2, m2, r2, q3, m3, r3, rfl, hb⟩
        replace cI0 := bc hb ltI cI0
        replace cI1 := bc hb ltI cI1
        replace cI2 := bc hb ltI cI2
        replace ltI := bl hb ltI
        replace cP0 := bc hb ltP cP0
        replace cP1 := bc hb ltP cP1
        replace cP2 := bc hb ltP cP2
        replace cP3 := bc hb ltP cP3
        replace ltP := bl hb ltP
        replace cG0 := bc hb ltG cG0
        replace cG1 := bc hb ltG cG1
        replace cG2 := bc hb ltG cG2
        replace ltG := bl hb ltG
        replace HD := Lib.hid (HD.out.below hb)
        replace H1 := Lib.hid (H1.out.below hb)
        replace HBd := Lib.hid (HBd.out.below hb)
        replace hB := hB.trans (hb.mono hB.size)
        clear hb
        obtain ⟨ab2, ao2, hae, hal, hac⟩ := HD.out.2.at hkm
        cases hae
        have y0 := hac kk hkm _ (Below.refl _ _)
        rw [HYb.out] at y0
        clear hac
        have hba : Below w10.heap.size w10 (w10.alloc (.cells #[.int .i64 z2, .slice q2 m2 r2, .slice q3 m3 r3] 28)) := (Below.refl _ _).alloc (Nat.le_refl _) _
        have nI0 := bc hba ltI cI0
        have nI1 := bc hba ltI cI1
        have nI2 := bc hba ltI cI2
        have nP0 := bc hba ltP cP0
        have nP1 := bc hba ltP cP1
        have nP2 := bc hba ltP cP2
        have nP3 := bc hba ltP cP3
        have nG0 := bc hba ltG cG0
        have nG1 := bc hba ltG cG1
        have nG2 := bc hba ltG cG2
        have ny0 := bc hba hal y0
        go_wp2_with fail
        clear hba nI0 nI1 nI2 nP0 nP1 nP2 nP3 nG0 nG1 nG2 ny0
        have hbx : Below w10.heap.size w10 (w10.alloc (.cells #[.int .i64 z2, .slice q2 m2 r2, .slice q3 m3 r3] 28)) := ((Below.refl _ _).alloc (Nat.le_refl _) _)
        generalize hWW : (w10.alloc (.cells #[.int .i64 z2, .slice q2 m2 r2, .slice q3 m3 r3] 28)) = w11 at *
        replace cI0 := bc hbx ltI cI0
        replace cI1 := bc hbx ltI cI1
        replace cI2 := bc hbx ltI cI2
        replace ltI := bl hbx ltI
        replace cP0 := bc hbx ltP cP0
        replace cP1 := bc hbx ltP cP1
        replace cP2 := bc hbx ltP cP2
        replace cP3 := bc hbx ltP cP3
        replace ltP := bl hbx ltP
        replace cG0 := bc hbx ltG cG0
        replace cG1 := bc hbx ltG cG1
        replace cG2 := bc hbx ltG cG2
        replace ltG := bl hbx ltG
        replace HD := Lib.hid (HD.out.below hbx)
        replace H1 := Lib.hid (H1.out.below hbx)
        replace HBd := Lib.hid (HBd.out.below hbx)
        have cK0 : w11.cell? ⟨w10.heap.size, 0, none⟩ = some (.int .i64 z2) := by subst hWW; go_simp
        have cK1 : w11.cell? ⟨w10.heap.size, 1, none⟩ = some (.slice q2 m2 r2) := by subst hWW; go_simp
        have cK2 : w11.cell? ⟨w10.heap.size, 2, none⟩ = some (.slice q3 m3 r3) := by subst hWW; go_simp
        have ltK : w10.heap.size < w11.heap.size := by subst hWW; simp
        replace hB := hB.trans (hbx.mono hB.size)
        clear hbx hWW
        clear y0 hal
        refine (rses t da _ b1 2000 e1 _ H1.out ho).mono ?_
        rintro e w12 ⟨gs, rfl, hgs, hb⟩
        replace cI0 := bc hb ltI cI0
        replace cI1 := bc hb ltI cI1
        replace cI2 := bc hb ltI cI2
        replace ltI := bl hb ltI
        replace cP0 := bc hb ltP cP0
        replace cP1 := bc hb ltP cP1
        replace cP2 := bc hb ltP cP2
        replace cP3 := bc hb ltP cP3
        replace ltP := bl hb ltP
        replace cG0 := bc hb ltG cG0
        replace cG1 := bc hb ltG cG1
        replace cG2 := bc hb ltG cG2
        replace ltG := bl hb ltG
        replace cK0 := bc hb ltK cK0
        replace cK1 := bc hb ltK cK1
        replace cK2 := bc hb ltK cK2
        replace ltK := bl hb ltK
        replace HD := Lib.hid (HD.out.below hb)
        replace H1 := Lib.hid (H1.out.below hb)
        replace HBd := Lib.hid (HBd.out.below hb)
        replace hB := hB.trans (hb.mono hB.size)
        have hgs2 : gs ≠ 0 := by intro h9; subst h9; simp at hgs
        have hgs3 : (gs != 0) = true := by simpa using hgs2
        clear hb
        have hba : Below w12.heap.size w12 (w12.alloc (.cells #[.int .i64 0, .slice none 0 0, .slice none 0 0] 28)) := (Below.refl _ _).alloc (Nat.le_refl _) _
        have nI0 := bc hba ltI cI0
        have nI1 := bc hba ltI cI1
        have nI2 := bc hba ltI cI2
        have nP0 := bc hba ltP cP0
        have nP1 := bc hba ltP cP1
        have nP2 := bc hba ltP cP2
        have nP3 := bc hba ltP cP3
        have nG0 := bc hba ltG cG0
        have nG1 := bc hba ltG cG1
        have nG2 := bc hba ltG cG2
        have nK0 := bc hba ltK cK0
        have nK1 := bc hba ltK cK1
        have nK2 := bc hba ltK cK2
        go_wp2_with fail
        clear hba nI0 nI1 nI2 nP0 nP1 nP2 nP3 nG0 nG1 nG2 nK0 nK1 nK2
        have hbx : Below w12.heap.size w12 (w12.alloc (.cells #[.int .i64 0, .slice none 0 0, .slice none 0 0] 28)) := ((Below.refl _ _).alloc (Nat.le_refl _) _)
        generalize hWW : (w12.alloc (.cells #[.int .i64 0, .slice none 0 0, .slice none 0 0] 28)) = w13 at *
        replace cI0 := bc hbx ltI cI0
        replace cI1 := bc hbx ltI cI1
        replace cI2 := bc hbx ltI cI2
        replace ltI := bl hbx ltI
        replace cP0 := bc hbx ltP cP0
        replace cP1 := bc hbx ltP cP1
        replace cP2 := bc hbx ltP cP2
        replace cP3 := bc hbx ltP cP3
        replace ltP := bl hbx ltP
        replace cG0 := bc hbx ltG cG0
        replace cG1 := bc hbx ltG cG1
        replace cG2 := bc hbx ltG cG2
        replace ltG := bl hbx ltG
        replace cK0 := bc hbx ltK cK0
        replace cK1 := bc hbx ltK cK1
        replace cK2 := bc hbx ltK cK2
        replace ltK := bl hbx ltK
        replace HD := Lib.hid (HD.out.below hbx)
        replace H1 := Lib.hid (H1.out.below hbx)
        replace HBd := Lib.hid (HBd.out.below hbx)
        have cO0 : w13.cell? ⟨w12.heap.size, 0, none⟩ = some (.int .i64 0) := by subst hWW; go_simp
        have cO1 : w13.cell? ⟨w12.heap.size, 1, none⟩ = some (.slice none 0 0) := by subst hWW; go_simp
        have cO2 : w13.cell? ⟨w12.heap.size, 2, none⟩ = some (.slice none 0 0) := by subst hWW; go_simp
        have ltO : w12.heap.size < w13.heap.size := by subst hWW; simp
        replace hB := hB.trans (hbx.mono hB.size)
        clear hbx hWW
        refine (awake_any _).mono ?_
        rintro e w14 ⟨rfl, hb⟩
        replace cI0 := bc hb ltI cI0
        replace cI1 := bc hb ltI cI1
        replace cI2 := bc hb ltI cI2
        replace ltI := bl hb ltI
        replace cP0 := bc hb ltP cP0
        replace cP1 := bc hb ltP cP1
        replace cP2 := bc hb ltP cP2
        replace cP3 := bc hb ltP cP3
        replace ltP := bl hb ltP
        replace cG0 := bc hb ltG cG0
        replace cG1 := bc hb ltG cG1
        replace cG2 := bc hb ltG cG2
        replace ltG := bl hb ltG
        replace cK0 := bc hb ltK cK0
        replace cK1 := bc hb ltK cK1
        replace cK2 := bc hb ltK cK2
        replace ltK := bl hb ltK
        replace cO0 := bc hb ltO cO0
        replace cO1 := bc hb ltO cO1
        replace cO2 := bc hb ltO cO2
        replace ltO := bl hb ltO
        replace HD := Lib.hid (HD.out.below hb)
        replace H1 := Lib.hid (H1.out.below hb)
        replace HBd := Lib.hid (HBd.out.below hb)
        replace hB := hB.trans (hb.mono hB.size)
        clear hb
        go_wp2_with fail
        go_ret
        exact ⟨rfl, hB⟩
theorem uploadDamage_calls (xs : List UInt8) (t v : Nat) (x : UInt8) (sm : UInt64) (a : Option Addr) (len cap : Nat) (w : World) (hx : Bytes w a len cap xs) (ht : t ≤ 65535) (hv : v ≤ 65535) :
    Calls Try.prog 6 #[.slice a len cap, .int .u16 t, .int .u16 v, .int .u8 (x.toNat : Int), .int .u64 (sm.toNat : Int)] w fun e w' => e = .returned (.bool true) ∧ Below w.heap.size w w' := by
  by_cases h : len ≤ 2000
  · exact uploadDamage_le xs t v x sm a len cap w hx ht hv h
  · exact uploadDamage_gt xs t v x sm a len cap w hx ht hv (by omega)
theorem u16_of (n : Int) (h : (Lit.int .u16 n).wf = true) : ∃ u : Nat, n = (u : Int) ∧ u ≤ 65535 := by
  have hx : 0 ≤ n ∧ n ≤ 65535 := by simpa [Lit.wf, IntKind.min, IntKind.max, IntKind.signed, IntKind.bits] using h
  exact ⟨n.toNat, by omega, by omega⟩

theorem uploadDamage_walk {H : Type} {enc : TypeId × Value → H} (W : World) (base : Nat) (args : Array Value) (ds gs : List (DataW H)) (before : List MemPlace)
    (hval : ∀ (j : Nat) t v, Try.f6.params[j]? = some t → args[j]? = some v → Value.okWide Try.prog W .any base t v)
    (hW : DataW.Whole enc Try.prog Try.f6.params.toList Rows.uploadDamageSpec.vars false W args.toList ds gs before)
    (_hsz : (DataW.weightsEach Try.prog (Try.f6.params.toList ++ Rows.uploadDamageSpec.plain.varTypes Try.prog) (ds ++ gs)).all (· ≤ reachBytes) = true) :
    Calls Try.prog 6 args W fun e w' => e = .returned (.bool true) ∧ Below W.heap.size W w' := by
  obtain ⟨p, q, hA, hV, -, -, -⟩ := hW
  obtain ⟨rfl, -⟩ := trodVars_none hV
  rw [Try.params6] at hA hval
  obtain ⟨v0, vs0, d0, ds0, p0, q0, hargs, rfl, rfl, h0, r0⟩ := trodAll_cons hA
  obtain ⟨v1, vs1, d1, ds1, p1, q1, rfl, rfl, rfl, h1, r1⟩ := trodAll_cons r0
  obtain ⟨v2, vs2, d2, ds2, p2, q2, rfl, rfl, rfl, h2, r2⟩ := trodAll_cons r1
  obtain ⟨v3, vs3, d3, ds3, p3, q3, rfl, rfl, rfl, h3, r3⟩ := trodAll_cons r2
  obtain ⟨v4, vs4, d4, ds4, p4, q4, rfl, rfl, rfl, h4, r4⟩ := trodAll_cons r3
  obtain ⟨rfl, rfl, rfl⟩ := trodAll_nil r4
  obtain rfl : args = #[v0, v1, v2, v3, v4] := by cases args; simp_all
  obtain ⟨a, len, cap, zs, rfl, hr, hz⟩ := open_row Try.underlying22 Try.underlying5 (by kernel_rfl) (hval 0 _ _ rfl rfl) h0
  obtain ⟨ys, -, hy⟩ := bytes_of rfl hr
  obtain ⟨i1, rfl, -, w1⟩ := open_num Try.underlying52 (hval 1 _ _ rfl rfl) h1
  obtain ⟨i2, rfl, -, w2⟩ := open_num Try.underlying52 (hval 2 _ _ rfl rfl) h2
  obtain ⟨i3, rfl, -, w3⟩ := open_num Try.underlying5 (hval 3 _ _ rfl rfl) h3
  obtain ⟨n3, rfl⟩ := u8_of i3 w3
  obtain ⟨i4, rfl, -, w4⟩ := open_num Try.underlying33 (hval 4 _ _ rfl rfl) h4
  obtain ⟨n4, rfl⟩ := u64_of i4 w4
  obtain ⟨t1, rfl, ht1⟩ := u16_of i1 w1
  obtain ⟨t2, rfl, ht2⟩ := u16_of i2 w2
  exact uploadDamage_calls ys t1 t2 n3 n4 a len cap W hy ht1 ht2

set_option maxRecDepth 100000 in
theorem uploadDamage_lifted (os : Os) (started : os.Started) (H : Type) (enc : TypeId × Value → H) :
    ReturnsInHanded {} Try.checked os 6 .any (Rows.uploadDamageSpec.pre6 enc Try.prog Try.f6 Rows.uploadDamageRow.domain false) (Rows.uploadDamageSpec.post enc Try.prog Try.f6 false true false false) := by
  refine returnsInHanded_of_change_sized (C := Try.checked) own started (by kernel_rfl) Try.func6
    (ChangeSpec.witness6 (enc := enc) (C := Try.checked) false ⟨#[], #[.slice none 0 0, .int .u16 0, .int .u16 0, .int .u8 0, .int .u64 0], []⟩ 8 (by kernel_rfl) (by kernel_rfl) (by kernel_rfl) (by kernel_rfl)) ?_
  intro W base args ds gs before hval hW _ hsz _
  exact law_post rfl (by kernel_rfl) (by kernel_rfl) (fun ds h => match ds, h with | [d0, d1, d2, d3, d4], _ => ⟨rfl, rfl, rfl⟩) hW (uploadDamage_walk W base args ds gs before hval hW hsz)

theorem uploadDamage_over : Rows.uploadDamageRow.holds Try.pinned (OpenSpec.ofChange Rows.uploadDamageSpec) :=
  OpenClaim.holds_of_wide 6 Try.f6 rfl rfl rfl rfl rfl rfl rfl ⟨rfl, rfl, rfl, rfl, rfl⟩ rfl rfl rfl rfl rfl (by kernel_rfl) Try.func6 (by kernel_rfl)
    (of_decide_eq_true (by kernel_rfl)) (by unfold Func.isWrapper; first | (rw [if_pos (by decide +kernel)]; kernel_rfl) | (rw [if_neg (by decide +kernel)]; exact ⟨rfl, rfl⟩))
    (fun os started H enc _ => uploadDamage_lifted os started H enc)

theorem uploadDamage_proved : Rows.UploadDamageSaid := uploadDamage_over

end Go.Proofs.Ytpdodapdaeochaa
