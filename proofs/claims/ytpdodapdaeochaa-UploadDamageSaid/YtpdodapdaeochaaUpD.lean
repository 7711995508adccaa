/- Uploads: what cut, Split and Rest return. Condition: fewer than 2^47 bytes. -/
import Derived.Test.YtpdodapdaeochaaUpC
namespace Go.Proofs.Ytpdodapdaeochaa
set_option maxRecDepth 100000
open Go.RowKit

/-- the packet with the bytes q of a log -/
def pk (s : Nat) (log : List UInt8) (q : PK) : PkM := ⟨s, q.1, (log.drop q.1).take q.2, sumU s q.1 ((log.drop q.1).take q.2)⟩
def cutP (len fr size i : Nat) : PK := (fr + i * size, min size (len - (fr + i * size)))
def cutN (len fr size : Nat) : Nat := (len - fr + size - 1) / size
theorem cutN_iff {len fr size i : Nat} (hs : 1 ≤ size) (hf : fr ≤ len) : i < cutN len fr size ↔ fr + i * size < len := by
  unfold cutN
  rw [← Nat.succ_le_iff, Nat.le_div_iff_mul_le (by omega), Nat.succ_mul]
  omega
theorem cutN_int {len fr sz : Nat} (hs : 1 ≤ sz) (hf : fr ≤ len) : ((len : Int) - fr + sz - 1) / sz = (cutN len fr sz : Nat) := by
  unfold cutN
  rw [Int.natCast_ediv, show (len : Int) - fr + sz - 1 = ((len - fr + sz - 1 : Nat) : Int) by omega]
/-- what may be divided -/
def OkC (s : Int) (len fr : Nat) (size : Int) : Prop := OkS s ∧ 1 ≤ size ∧ size ≤ 2000 ∧ len ≤ 1048576 ∧ cutN len fr size.toNat ≤ 1024
set_option maxHeartbeats 1000000 in
theorem cut_no (s : Int) (a : Option Addr) (len cap fr : Nat) (size : Int) (w : World) (hlen : len ≤ 140737488355328) (hf : fr ≤ len) (h : ¬ OkC s len fr size) :
    Calls Try.prog 40 #[.int .i64 s, .slice a len cap, .int .i64 fr, .int .i64 size] w fun e w' =>  e = .returned (.tuple #[.slice none 0 0, .int .i64 3]) ∧ w = w' := by
  by_cases h0 : OkS s
  rotate_left
  · have d0 : decide (OkS s) = false := decide_eq_false h0
    clear h
    go_enter Try.func40, Try.ntmps40
    go_wp2_with fail
    refine (numbered_any s _).mono ?_
    rintro e w1 ⟨rfl, rfl⟩
    go_wp2_with fail
    go_ret2
    exact ⟨rfl, rfl⟩
  have d0 : decide (OkS s) = true := decide_eq_true h0
  by_cases h1 : size < 1
  · have d1 : decide (size < 1) = true := decide_eq_true h1
    clear h
    go_enter Try.func40, Try.ntmps40
    go_wp2_with fail
    refine (numbered_any s _).mono ?_
    rintro e w1 ⟨rfl, rfl⟩
    go_wp2_with fail
    go_ret2
    exact ⟨rfl, rfl⟩
  have d1 : decide (size < 1) = false := decide_eq_false h1
  by_cases h2 : 2000 < size
  · have d2 : decide (2000 < size) = true := decide_eq_true h2
    clear h
    go_enter Try.func40, Try.ntmps40
    go_wp2_with fail
    refine (numbered_any s _).mono ?_
    rintro e w1 ⟨rfl, rfl⟩
    go_wp2_with fail
    go_ret2
    exact ⟨rfl, rfl⟩
  have d2 : decide (2000 < size) = false := decide_eq_false h2
  by_cases h3 : (1048576 : Int) < len
  · have d3 : decide ((1048576 : Int) < len) = true := decide_eq_true h3
    clear h
    go_enter Try.func40, Try.ntmps40
    go_wp2_with fail
    refine (numbered_any s _).mono ?_
    rintro e w1 ⟨rfl, rfl⟩
    go_wp2_with fail
    go_ret2
    exact ⟨rfl, rfl⟩
  have d3 : decide ((1048576 : Int) < len) = false := decide_eq_false h3
  obtain ⟨sz, rfl⟩ : ∃ sz : Nat, size = (sz : Int) := ⟨size.toNat, by omega⟩
  have h4 : 1024 < cutN len fr sz := by
    have h5 : ¬ cutN len fr sz ≤ 1024 := fun h6 => h ⟨h0, by omega, by omega, by omega, by simpa using h6⟩
    omega
  have hq : ((len : Int) - fr + sz - 1) / sz = (cutN len fr sz : Nat) := cutN_int (by omega) hf
  have d4 : decide (1024 < ((len : Int) - fr + sz - 1) / sz) = true := decide_eq_true (by rw [hq]; omega)
  clear h hq h4
  go_enter Try.func40, Try.ntmps40
  go_wp2_with fail
  refine (numbered_any s _).mono ?_
  rintro e w1 ⟨rfl, rfl⟩
  go_wp2_with fail
  go_ret2
  exact ⟨rfl, rfl⟩

theorem cut_noB (s : Int) (a : Option Addr) (len cap fr : Nat) (size : Int) (w : World) (hlen : len ≤ 140737488355328) (hf : fr ≤ len) (h : ¬ OkC s len fr size) :
    Calls Try.prog 40 #[.int .i64 s, .slice a len cap, .int .i64 fr, .int .i64 size] w fun e w' =>  e = .returned (.tuple #[.slice none 0 0, .int .i64 3]) ∧ Below w.heap.size w w' :=
  (cut_no s a len cap fr size w hlen hf h).mono fun _ _ ⟨h1, h2⟩ => ⟨h1, h2 ▸ Below.refl _ _⟩

set_option maxHeartbeats 1000000 in
theorem cut_ok (s : Nat) (log : List UInt8) (a : Option Addr) (len cap fr sz : Nat) (w : World) (hx : Bytes w a len cap log) (hf : fr ≤ len) (h : OkC s len fr sz) :
    Calls Try.prog 40 #[.int .i64 s, .slice a len cap, .int .i64 fr, .int .i64 sz] w fun e w' => ∃ b c, e = .returned (.tuple #[.slice b (cutN len fr sz) c, .int .i64 0]) ∧ PksIn w' b (cutN len fr sz) c (fun i => pk s log (cutP len fr sz i)) ∧ Below w.heap.size w w' := by
  obtain ⟨h0, h1, h2, h3, h4⟩ := h
  simp only [Int.toNat_natCast] at h4
  have d0 : decide (OkS s) = true := decide_eq_true h0
  have d1 : decide ((sz : Int) < 1) = false := decide_eq_false (by omega)
  have d2 : decide (2000 < (sz : Int)) = false := decide_eq_false (by omega)
  have d3 : decide ((1048576 : Int) < len) = false := decide_eq_false (by omega)
  have hz : (sz : Int) ≠ 0 := by omega
  have hq : ((len : Int) - fr + sz - 1) / sz = (cutN len fr sz : Nat) := cutN_int (by omega) hf
  have d4 : decide (1024 < ((len : Int) - fr + sz - 1) / sz) = false := decide_eq_false (by rw [hq]; omega)
  have HN := Lib.hid (fun i => cutN_iff (i := i) (show 1 ≤ sz by omega) hf)
  have hs1 : s ≤ 9999999 := by have := h0.2; omega
  generalize hK : cutN len fr sz = K at *
  have HX := Lib.hid hx
  have hcl := hx.2.1
  have hcm := hx.2.2.1
  unfold maxLen at hcm
  have hz1 : 1 ≤ sz := by omega
  have hz2 : sz ≤ 2000 := by omega
  have hl2 : len ≤ 1048576 := by omega
  clear hx hq hK h0 h1 h2 h3
  go_enter Try.func40, Try.ntmps40
  go_wp2_with fail
  refine (numbered_any s _).mono ?_
  rintro e w1 ⟨rfl, rfl⟩
  go_wp2_with fail
  go_loopw [10, 11] (fun u i wr => ∃ k A : Nat, k ≤ K ∧ A = fr + k * sz ∧ i = .int .i64 A ∧ Hid (PU wr w.heap.size u k (fun i => pk s log (cutP len fr sz i))) ∧ Below w.heap.size w wr) (fun _ i _ => len - (intOf i).toNat)
  case atStart => exact ⟨0, fr, by omega, by simp, rfl, Lib.hid (PU.nil _ _ _), Below.refl _ _⟩
  case round =>
    obtain ⟨k, A, hk, hA, rfl, HU, hB⟩ := hrel
    by_cases hlt : k < K
    · have hAl : A < len := by rw [hA]; exact (HN.out k).1 hlt
      have d5 : decide ((A : Int) < len) = true := decide_eq_true (by omega)
      have HA := Lib.hid hA
      obtain ⟨b, off, rfl, -, -⟩ := HX.out.2.at (k := A) (by omega)
      obtain ⟨cs, hO, hC⟩ := HU.out
      have HO := Lib.hid hO
      have HC := Lib.hid hC
      clear hC hO HU hA
      by_cases hend : A + sz ≤ len
      · have d6 : decide ((A : Int) + sz ≤ len) = true := decide_eq_true (by omega)
        have HX1 := Lib.hid (by have h := (HX.out.below hB).sub A (sz) (by omega); rw [if_neg (show ¬ cap = A by omega)] at h; simpa only [Option.map_some, addr_add] using h : Bytes wr (some ⟨b, off + A, none⟩) (sz) (cap - A) ((log.drop A).take (sz)))
        have HP := Lib.hid (show pk s log (cutP len fr sz k) = ⟨s, A, (log.drop A).take (sz), sumU s A ((log.drop A).take (sz))⟩ by
          unfold cutP; rw [← HA.out, show min sz (len - A) = sz by omega]; rfl)
        generalize hdd : (log.drop A).take (sz) = dd at *
        generalize hsu : sumU s A dd = su at *
        have HS := Lib.hid hsu
        clear hdd hsu
        go_wp2_with fail
        refine (build_any s A dd _ (sz) (cap - A) _ (by omega) (by omega) (by omega) HX1.out).mono ?_
        rintro e w1 ⟨b1, c1, rfl, hv, hu, hb⟩
        rw [HS.out]
        have HV := Lib.hid hv
        have HU1 := Lib.hid hu
        have HO1 := Lib.hid (HO.out.later hb)
        have HC1 := Lib.hid (fun i (hi : i < k) => (HC.out i hi).later hb)
        have hB1 := hB.trans (hb.mono hB.size)
        have HLt := Lib.hid (HO.out.in)
        clear hv hu hb
        have hsz := hB1.size
        go_wp2_with (at_builtin; go_must (refine wpList_appK1 rfl _ _ 24 rfl w.heap.size 35 4 (by omega) _ 48 Try.underlying24 infoPacket rfl u10 k cs rfl [.int .i64 s, .int .i64 A, .slice b1 (sz) c1, .int .u64 su.toNat] rfl (by simp [Value.oneCell']) HO1.out rfl (by omega) (by simp only [maxLen]; omega) hsz fun v' w2 g1 g2 => ?_))
        have HU2 := Lib.hid (PU.step (m := ⟨s, A, dd, su⟩) HO1.out HC1.out g2 g1 HV.out (fun g hg => HU1.out.off (HLt.out g hg)) HP.out)
        have HB2 := Lib.hid (hB1.trans (g2.below hB1.size HO1.out.lt))
        clear g1 g2
        go_wp2_with fail
        go_roundw
        case rel => exact ⟨k + 1, A + sz, by omega, by rw [HA.out, Nat.succ_mul, Nat.add_assoc], by go_num, HU2, HB2.out⟩
        case measure => simp [intOf]; omega
      · have d6 : decide ((A : Int) + sz ≤ len) = false := decide_eq_false (by omega)
        have HX1 := Lib.hid (by have h := (HX.out.below hB).sub A (len - A) (by omega); rw [if_neg (show ¬ cap = A by omega)] at h; simpa only [Option.map_some, addr_add] using h : Bytes wr (some ⟨b, off + A, none⟩) (len - A) (cap - A) ((log.drop A).take (len - A)))
        have HP := Lib.hid (show pk s log (cutP len fr sz k) = ⟨s, A, (log.drop A).take (len - A), sumU s A ((log.drop A).take (len - A))⟩ by
          unfold cutP; rw [← HA.out, show min sz (len - A) = len - A by omega]; rfl)
        generalize hdd : (log.drop A).take (len - A) = dd at *
        generalize hsu : sumU s A dd = su at *
        have HS := Lib.hid hsu
        clear hdd hsu
        go_wp2_with fail
        refine (build_any s A dd _ (len - A) (cap - A) _ (by omega) (by omega) (by omega) HX1.out).mono ?_
        rintro e w1 ⟨b1, c1, rfl, hv, hu, hb⟩
        rw [HS.out]
        have HV := Lib.hid hv
        have HU1 := Lib.hid hu
        have HO1 := Lib.hid (HO.out.later hb)
        have HC1 := Lib.hid (fun i (hi : i < k) => (HC.out i hi).later hb)
        have hB1 := hB.trans (hb.mono hB.size)
        have HLt := Lib.hid (HO.out.in)
        clear hv hu hb
        have hsz := hB1.size
        go_wp2_with (at_builtin; go_must (refine wpList_appK1 rfl _ _ 24 rfl w.heap.size 35 4 (by omega) _ 48 Try.underlying24 infoPacket rfl u10 k cs rfl [.int .i64 s, .int .i64 A, .slice b1 (len - A) c1, .int .u64 su.toNat] rfl (by simp [Value.oneCell']) HO1.out rfl (by omega) (by simp only [maxLen]; omega) hsz fun v' w2 g1 g2 => ?_))
        have HU2 := Lib.hid (PU.step (m := ⟨s, A, dd, su⟩) HO1.out HC1.out g2 g1 HV.out (fun g hg => HU1.out.off (HLt.out g hg)) HP.out)
        have HB2 := Lib.hid (hB1.trans (g2.below hB1.size HO1.out.lt))
        clear g1 g2
        go_wp2_with fail
        go_roundw
        case rel => exact ⟨k + 1, A + sz, by omega, by rw [HA.out, Nat.succ_mul, Nat.add_assoc], by go_num, HU2, HB2.out⟩
        case measure => simp [intOf]; omega
    · obtain rfl : k = K := by omega
      have hAl : len ≤ A := by have h5 := (HN.out k).2; omega
      obtain ⟨b, c, rfl, hP⟩ := HU.out.in
      have HP := Lib.hid hP
      clear hP HU hA
      go_wp2_with fail
      go_ret2
      exact ⟨b, c, rfl, HP.out, hB⟩

theorem split_no (s : Int) (a : Option Addr) (len cap : Nat) (size : Int) (w : World) (hlen : len ≤ 140737488355328) (h : ¬ OkC s len 0 size) :
    Calls Try.prog 20 #[.int .i64 s, .slice a len cap, .int .i64 size] w fun e w' => e = .returned (.tuple #[.slice none 0 0, .int .i64 3]) ∧ w = w' := by
  go_enter Try.func20, Try.ntmps20
  go_wp2_with fail
  refine (cut_no s a len cap 0 size _ hlen (by omega) h).mono ?_
  rintro e w1 ⟨rfl, rfl⟩
  go_wp2_with fail
  go_ret2
  exact ⟨rfl, rfl⟩
theorem split_ok (s : Nat) (log : List UInt8) (a : Option Addr) (len cap sz : Nat) (w : World) (hx : Bytes w a len cap log) (h : OkC s len 0 sz) :
    Calls Try.prog 20 #[.int .i64 s, .slice a len cap, .int .i64 sz] w fun e w' => ∃ b c, e = .returned (.tuple #[.slice b (cutN len 0 sz) c, .int .i64 0]) ∧ PksIn w' b (cutN len 0 sz) c (fun i => pk s log (cutP len 0 sz i)) ∧ Below w.heap.size w w' := by
  have HX := Lib.hid hx
  clear hx
  go_enter Try.func20, Try.ntmps20
  go_wp2_with fail
  refine (cut_ok s log a len cap 0 sz _ HX.out (by omega) h).mono ?_
  rintro e w1 ⟨b, c, rfl, h1, hb⟩
  have H1 := Lib.hid h1
  clear h1
  go_wp2_with fail
  go_ret2
  exact ⟨b, c, rfl, H1.out, hb⟩
theorem need_any (s : Int) (a1 a2 : Option Addr) (n1 c1 n2 c2 : Nat) (w : World) :
    Calls Try.prog 12 #[.agg #[.int .i64 s, .slice a1 n1 c1, .slice a2 n2 c2]] w fun e w' => e = .returned (.int .i64 n1) ∧ Below w.heap.size w w' := by
  have hbx : Below w.heap.size w (w.alloc (.cells #[.int .i64 s, .slice a1 n1 c1, .slice a2 n2 c2] 28)) := (Below.refl _ _).alloc (Nat.le_refl _) _
  go_enter Try.func12, Try.ntmps12
  go_wp2_with fail
  go_ret
  exact ⟨rfl, hbx⟩

set_option maxHeartbeats 2000000 in
theorem rest_far (s : Int) (da log : List UInt8) (a1 a2 a : Option Addr) (n1 c1 n2 c2 len cap : Nat) (sz : Int) (w : World) (hd : Bytes w a1 n1 c1 da) (hx : Bytes w a len cap log) (h : ¬ da <+: log) :
    Calls Try.prog 24 #[.agg #[.int .i64 s, .slice a1 n1 c1, .slice a2 n2 c2], .slice a len cap, .int .i64 sz] w fun e w' => e = .returned (.tuple #[.slice none 0 0, .int .i64 11]) ∧ Below w.heap.size w w' := by
  have HD := Lib.hid hd
  have HX := Lib.hid hx
  have HF := Lib.hid (decide_eq_false h)
  clear hd hx h
  go_enter Try.func24, Try.ntmps24
  go_wp2_with fail
  have hbx : Below w.heap.size w (w.alloc (.cells #[.int .i64 s, .slice a1 n1 c1, .slice a2 n2 c2] 28)) := ((Below.refl _ _).alloc (Nat.le_refl _) _)
  generalize hWW : (w.alloc (.cells #[.int .i64 s, .slice a1 n1 c1, .slice a2 n2 c2] 28)) = w0 at *
  replace HD := Lib.hid (HD.out.below hbx)
  replace HX := Lib.hid (HX.out.below hbx)
  have cI0 : w0.cell? ⟨w.heap.size, 0, none⟩ = some (.int .i64 s) := by subst hWW; go_simp
  have cI1 : w0.cell? ⟨w.heap.size, 1, none⟩ = some (.slice a1 n1 c1) := by subst hWW; go_simp
  have cI2 : w0.cell? ⟨w.heap.size, 2, none⟩ = some (.slice a2 n2 c2) := by subst hWW; go_simp
  have ltI : w.heap.size < w0.heap.size := by subst hWW; simp
  have hB := hbx
  clear hbx hWW
  refine (hasprefix_any log da a a1 len cap n1 c1 _ HX.out HD.out).mono ?_
  rintro e w1 ⟨rfl, rfl⟩
  rw [HF.out]
  go_wp2_with fail
  go_ret2
  exact ⟨rfl, hB⟩
set_option maxHeartbeats 2000000 in
theorem rest_no (s : Int) (da log : List UInt8) (a1 a2 a : Option Addr) (n1 c1 n2 c2 len cap : Nat) (sz : Int) (w : World) (hd : Bytes w a1 n1 c1 da) (hx : Bytes w a len cap log) (hlen : len ≤ 140737488355328) (h : da <+: log) (ho : ¬ OkC s len n1 sz) :
    Calls Try.prog 24 #[.agg #[.int .i64 s, .slice a1 n1 c1, .slice a2 n2 c2], .slice a len cap, .int .i64 sz] w fun e w' => e = .returned (.tuple #[.slice none 0 0, .int .i64 3]) ∧ Below w.heap.size w w' := by
  have HD := Lib.hid hd
  have HX := Lib.hid hx
  have HF := Lib.hid (decide_eq_true h)
  have hle : n1 ≤ len := by have := h.length_le; rw [hd.1, hx.1] at this; exact this
  have HO := Lib.hid ho
  clear hd hx h ho
  go_enter Try.func24, Try.ntmps24
  go_wp2_with fail
  have hbx : Below w.heap.size w (w.alloc (.cells #[.int .i64 s, .slice a1 n1 c1, .slice a2 n2 c2] 28)) := ((Below.refl _ _).alloc (Nat.le_refl _) _)
  generalize hWW : (w.alloc (.cells #[.int .i64 s, .slice a1 n1 c1, .slice a2 n2 c2] 28)) = w0 at *
  replace HD := Lib.hid (HD.out.below hbx)
  replace HX := Lib.hid (HX.out.below hbx)
  have cI0 : w0.cell? ⟨w.heap.size, 0, none⟩ = some (.int .i64 s) := by subst hWW; go_simp
  have cI1 : w0.cell? ⟨w.heap.size, 1, none⟩ = some (.slice a1 n1 c1) := by subst hWW; go_simp
  have cI2 : w0.cell? ⟨w.heap.size, 2, none⟩ = some (.slice a2 n2 c2) := by subst hWW; go_simp
  have ltI : w.heap.size < w0.heap.size := by subst hWW; simp
  have hB := hbx
  clear hbx hWW
  refine (hasprefix_any log da a a1 len cap n1 c1 _ HX.out HD.out).mono ?_
  rintro e w1 ⟨rfl, rfl⟩
  rw [HF.out]
  go_wp2_with fail
  have eI0 := box_ext (B := w0.heap.size) cI0 ltI
  have eI1 := box_ext (B := w0.heap.size) cI1 ltI
  have eI2 := box_ext (B := w0.heap.size) cI2 ltI
  refine wp_region_sched [(0, false), (1, false), (2, false), (3, false), (5, false), (4, true), (6, true), (7, false), (8, false), (9, false), (10, false)] (fun w' => ∃ W : Ext w0.heap.size w0, w' = W.1) (by kernel_rfl) (by kernel_rfl) ⟨⟨w0.drew, (Below.refl _ _).drew⟩, rfl⟩ ?_
  repeat (refine wpSched_calm rfl (fun K hK => ?_); go_simp; refine hK _ ?_; clear hK K)
  clear eI0 eI1 eI2
  have hbx : Below w0.heap.size w0 w0.drew := (Below.refl _ _).drew
  have hM := hbx
  replace cI0 := bc hbx ltI cI0
  replace cI1 := bc hbx ltI cI1
  replace cI2 := bc hbx ltI cI2
  replace ltI := bl hbx ltI
  replace HD := Lib.hid (HD.out.below hbx)
  replace HX := Lib.hid (HX.out.below hbx)
  replace hB := hB.trans (hbx.mono hB.size)
  clear hbx
  generalize w0.drew = ww0d at *
  refine wpSched_eff rfl rfl (fun K hK => ?_)
  go_simp
  refine (need_any _ _ _ _ _ _ _ _).mono ?_
  rintro e w2 ⟨rfl, hb⟩
  replace cI0 := bc hb ltI cI0
  replace cI1 := bc hb ltI cI1
  replace cI2 := bc hb ltI cI2
  replace ltI := bl hb ltI
  replace HD := Lib.hid (HD.out.below hb)
  replace HX := Lib.hid (HX.out.below hb)
  replace hM := hM.trans (hb.mono hM.size)
  replace hB := hB.trans (hb.mono hB.size)
  clear hb
  refine hK _ _ ⟨⟨w2, hM⟩, rfl⟩ ?_
  clear hK K
  repeat (refine wpSched_calm rfl (fun K hK => ?_); go_simp; refine hK _ ?_; clear hK K)
  refine wpSched_eff rfl rfl (fun K hK => ?_)
  go_simp
  refine (cut_noB s a len cap n1 sz _ hlen hle HO.out).mono ?_
  rintro e w3 ⟨rfl, hb⟩
  replace cI0 := bc hb ltI cI0
  replace cI1 := bc hb ltI cI1
  replace cI2 := bc hb ltI cI2
  replace ltI := bl hb ltI
  replace HD := Lib.hid (HD.out.below hb)
  replace HX := Lib.hid (HX.out.below hb)
  replace hM := hM.trans (hb.mono hM.size)
  replace hB := hB.trans (hb.mono hB.size)
  clear hb
  refine hK _ _ ⟨⟨w3, hM⟩, rfl⟩ ?_
  clear hK K
  repeat (refine wpSched_calm rfl (fun K hK => ?_); go_simp; refine hK _ ?_; clear hK K)
  refine wpSched_nil ?_
  go_wp2_with fail
  go_ret2
  exact ⟨rfl, hB⟩
set_option maxHeartbeats 2000000 in
theorem rest_ok (s : Nat) (da log : List UInt8) (a1 a2 a : Option Addr) (n1 c1 n2 c2 len cap : Nat) (sz : Nat) (w : World) (hd : Bytes w a1 n1 c1 da) (hx : Bytes w a len cap log) (h : da <+: log) (ho : OkC s len n1 sz) :
    Calls Try.prog 24 #[.agg #[.int .i64 s, .slice a1 n1 c1, .slice a2 n2 c2], .slice a len cap, .int .i64 sz] w fun e w' => ∃ b c, e = .returned (.tuple #[.slice b (cutN len n1 sz) c, .int .i64 0]) ∧ PksIn w' b (cutN len n1 sz) c (fun i => pk s log (cutP len n1 sz i)) ∧ Below w.heap.size w w' := by
  have HD := Lib.hid hd
  have HX := Lib.hid hx
  have HF := Lib.hid (decide_eq_true h)
  have hle : n1 ≤ len := by have := h.length_le; rw [hd.1, hx.1] at this; exact this
  have HO := Lib.hid ho
  clear hd hx h ho
  go_enter Try.func24, Try.ntmps24
  go_wp2_with fail
  have hbx : Below w.heap.size w (w.alloc (.cells #[.int .i64 s, .slice a1 n1 c1, .slice a2 n2 c2] 28)) := ((Below.refl _ _).alloc (Nat.le_refl _) _)
  generalize hWW : (w.alloc (.cells #[.int .i64 s, .slice a1 n1 c1, .slice a2 n2 c2] 28)) = w0 at *
  replace HD := Lib.hid (HD.out.below hbx)
  replace HX := Lib.hid (HX.out.below hbx)
  have cI0 : w0.cell? ⟨w.heap.size, 0, none⟩ = some (.int .i64 s) := by subst hWW; go_simp
  have cI1 : w0.cell? ⟨w.heap.size, 1, none⟩ = some (.slice a1 n1 c1) := by subst hWW; go_simp
  have cI2 : w0.cell? ⟨w.heap.size, 2, none⟩ = some (.slice a2 n2 c2) := by subst hWW; go_simp
  have ltI : w.heap.size < w0.heap.size := by subst hWW; simp
  have hB := hbx
  clear hbx hWW
  refine (hasprefix_any log da a a1 len cap n1 c1 _ HX.out HD.out).mono ?_
  rintro e w1 ⟨rfl, rfl⟩
  rw [HF.out]
  go_wp2_with fail
  have eI0 := box_ext (B := w0.heap.size) cI0 ltI
  have eI1 := box_ext (B := w0.heap.size) cI1 ltI
  have eI2 := box_ext (B := w0.heap.size) cI2 ltI
  refine wp_region_sched [(0, false), (1, false), (2, false), (3, false), (5, false), (4, true), (6, true), (7, false), (8, false), (9, false), (10, false)] (fun w' => ∃ W : Ext w0.heap.size w0, w' = W.1) (by kernel_rfl) (by kernel_rfl) ⟨⟨w0.drew, (Below.refl _ _).drew⟩, rfl⟩ ?_
  repeat (refine wpSched_calm rfl (fun K hK => ?_); go_simp; refine hK _ ?_; clear hK K)
  clear eI0 eI1 eI2
  have hbx : Below w0.heap.size w0 w0.drew := (Below.refl _ _).drew
  have hM := hbx
  replace cI0 := bc hbx ltI cI0
  replace cI1 := bc hbx ltI cI1
  replace cI2 := bc hbx ltI cI2
  replace ltI := bl hbx ltI
  replace HD := Lib.hid (HD.out.below hbx)
  replace HX := Lib.hid (HX.out.below hbx)
  replace hB := hB.trans (hbx.mono hB.size)
  clear hbx
  generalize w0.drew = ww0d at *
  refine wpSched_eff rfl rfl (fun K hK => ?_)
  go_simp
  refine (need_any _ _ _ _ _ _ _ _).mono ?_
  rintro e w2 ⟨rfl, hb⟩
  replace cI0 := bc hb ltI cI0
  replace cI1 := bc hb ltI cI1
  replace cI2 := bc hb ltI cI2
  replace ltI := bl hb ltI
  replace HD := Lib.hid (HD.out.below hb)
  replace HX := Lib.hid (HX.out.below hb)
  replace hM := hM.trans (hb.mono hM.size)
  replace hB := hB.trans (hb.mono hB.size)
  clear hb
  refine hK _ _ ⟨⟨w2, hM⟩, rfl⟩ ?_
  clear hK K
  repeat (refine wpSched_calm rfl (fun K hK => ?_); go_simp; refine hK _ ?_; clear hK K)
  refine wpSched_eff rfl rfl (fun K hK => ?_)
  go_simp
  refine (cut_ok s log a len cap n1 sz _ HX.out hle HO.out).mono ?_
  rintro e w3 ⟨b, c, rfl, h1, hb⟩
  replace cI0 := bc hb ltI cI0
  replace cI1 := bc hb ltI cI1
  replace cI2 := bc hb ltI cI2
  replace ltI := bl hb ltI
  replace HD := Lib.hid (HD.out.below hb)
  replace HX := Lib.hid (HX.out.below hb)
  replace hM := hM.trans (hb.mono hM.size)
  replace hB := hB.trans (hb.mono hB.size)
  have H1 := Lib.hid h1
  clear h1
  clear hb
  refine hK _ _ ⟨⟨w3, hM⟩, rfl⟩ ?_
  clear hK K
  repeat (refine wpSched_calm rfl (fun K hK => ?_); go_simp; refine hK _ ?_; clear hK K)
  refine wpSched_nil ?_
  go_wp2_with fail
  go_ret2
  exact ⟨b, c, rfl, H1.out, hB⟩

end Go.Proofs.Ytpdodapdaeochaa
