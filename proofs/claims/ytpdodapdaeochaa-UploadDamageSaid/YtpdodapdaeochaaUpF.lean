/- Uploads: what copyPacket and extend return. No condition but the reach. -/
import Derived.Test.YtpdodapdaeochaaUpE
namespace Go.Proofs.Ytpdodapdaeochaa
set_option maxRecDepth 100000
open Go.RowKit

set_option maxHeartbeats 2000000 in
theorem copy_any (m : PkM) (a : Option Addr) (n c : Nat) (w : World) (hx : Bytes w a n c m.da) (hn : n ≤ 140737488355328) :
    Calls Try.prog 34 #[.agg #[.int .i64 m.se, .int .i64 m.pos, .slice a n c, .int .u64 (m.su.toNat : Int)]] w fun e w' => ∃ b d, e = .returned (.agg #[.int .i64 m.se, .int .i64 m.pos, .slice b n d, .int .u64 (m.su.toNat : Int)]) ∧ Bytes w' b n d m.da ∧ Under' w.heap.size b n ∧ Below w.heap.size w w' := by
  have HX := Lib.hid hx
  clear hx
  go_enter Try.func34, Try.ntmps34
  go_wp2_with fail
  have hbx : Below w.heap.size w ((w.alloc (.cells #[.int .i64 m.se, .int .i64 m.pos, .slice a n c, .int .u64 (m.su.toNat : Int)] 35)).alloc (.cells #[.int .i64 0, .int .i64 0, .slice none 0 0, .int .u64 0] 35)) := (((Below.refl _ _).alloc (Nat.le_refl _) _).alloc (by simp) _)
  generalize hWW : ((w.alloc (.cells #[.int .i64 m.se, .int .i64 m.pos, .slice a n c, .int .u64 (m.su.toNat : Int)] 35)).alloc (.cells #[.int .i64 0, .int .i64 0, .slice none 0 0, .int .u64 0] 35)) = w0 at *
  replace HX := Lib.hid (HX.out.below hbx)
  have cP0 : w0.cell? ⟨w.heap.size, 0, none⟩ = some (.int .i64 m.se) := by subst hWW; go_simp
  have fP0 : w0.frozen? ⟨w.heap.size, 0, none⟩ = false := by subst hWW; go_simp
  have cP1 : w0.cell? ⟨w.heap.size, 1, none⟩ = some (.int .i64 m.pos) := by subst hWW; go_simp
  have fP1 : w0.frozen? ⟨w.heap.size, 1, none⟩ = false := by subst hWW; go_simp
  have cP2 : w0.cell? ⟨w.heap.size, 2, none⟩ = some (.slice a n c) := by subst hWW; go_simp
  have fP2 : w0.frozen? ⟨w.heap.size, 2, none⟩ = false := by subst hWW; go_simp
  have cP3 : w0.cell? ⟨w.heap.size, 3, none⟩ = some (.int .u64 (m.su.toNat : Int)) := by subst hWW; go_simp
  have fP3 : w0.frozen? ⟨w.heap.size, 3, none⟩ = false := by subst hWW; go_simp
  have ltP : w.heap.size < w0.heap.size := by subst hWW; simp <;> omega
  have cR0 : w0.cell? ⟨w.heap.size + 1, 0, none⟩ = some (.int .i64 0) := by subst hWW; go_simp
  have fR0 : w0.frozen? ⟨w.heap.size + 1, 0, none⟩ = false := by subst hWW; go_simp
  have cR1 : w0.cell? ⟨w.heap.size + 1, 1, none⟩ = some (.int .i64 0) := by subst hWW; go_simp
  have fR1 : w0.frozen? ⟨w.heap.size + 1, 1, none⟩ = false := by subst hWW; go_simp
  have cR2 : w0.cell? ⟨w.heap.size + 1, 2, none⟩ = some (.slice none 0 0) := by subst hWW; go_simp
  have fR2 : w0.frozen? ⟨w.heap.size + 1, 2, none⟩ = false := by subst hWW; go_simp
  have cR3 : w0.cell? ⟨w.heap.size + 1, 3, none⟩ = some (.int .u64 0) := by subst hWW; go_simp
  have fR3 : w0.frozen? ⟨w.heap.size + 1, 3, none⟩ = false := by subst hWW; go_simp
  have ltR : w.heap.size + 1 < w0.heap.size := by subst hWW; simp
  have hB := hbx
  clear hbx hWW
  have hw0 := ltR
  refine (bclone_bytes m.da a n c _ HX.out hn).mono ?_
  rintro e w1 ⟨b, d, rfl, hv, hu, hb⟩
  replace cP0 := bc hb ltP cP0
  replace fP0 := bf hb ltP fP0
  replace cP1 := bc hb ltP cP1
  replace fP1 := bf hb ltP fP1
  replace cP2 := bc hb ltP cP2
  replace fP2 := bf hb ltP fP2
  replace cP3 := bc hb ltP cP3
  replace fP3 := bf hb ltP fP3
  replace ltP := bl hb ltP
  replace cR0 := bc hb ltR cR0
  replace fR0 := bf hb ltR fR0
  replace cR1 := bc hb ltR cR1
  replace fR1 := bf hb ltR fR1
  replace cR2 := bc hb ltR cR2
  replace fR2 := bf hb ltR fR2
  replace cR3 := bc hb ltR cR3
  replace fR3 := bf hb ltR fR3
  replace ltR := bl hb ltR
  replace HX := Lib.hid (HX.out.below hb)
  replace hB := hB.trans (hb.mono hB.size)
  have HV := Lib.hid hv
  have HU := Lib.hid hu
  clear hv hu
  clear hb
  go_wp2_with fail
  have ho : OffB w.heap.size b n := HU.out.off (by omega)
  have ho2 : OffB (w.heap.size + 1) b n := HU.out.off hw0
  exact bodyPost_ret (v := .agg #[.int .i64 m.se, .int .i64 m.pos, .slice b n d, .int .u64 (m.su.toNat : Int)]) (by simp [results, Try.results34, go_sem, cR0, cR1, cR2, cR3]) rfl ⟨b, d, rfl, ((((HV.out.set ho 2 _).set ho2 0 _).set ho2 1 _).set ho2 2 _).set ho2 3 _, HU.out.imp id (fun h x hx => by have := h x hx; omega), (((((hB.setCell (p := ⟨w.heap.size, 2, none⟩) (Nat.le_refl _) _).setCell (p := ⟨w.heap.size + 1, 0, none⟩) (Nat.le_succ _) _).setCell (p := ⟨w.heap.size + 1, 1, none⟩) (Nat.le_succ _) _).setCell (p := ⟨w.heap.size + 1, 2, none⟩) (Nat.le_succ _) _).setCell (p := ⟨w.heap.size + 1, 3, none⟩) (Nat.le_succ _) _)⟩

theorem take_seg {log : List UInt8} {d p n : Nat} (h1 : p ≤ d) (h2 : d ≤ p + n) : log.take d ++ (seg log (p, n)).drop (d - p) = log.take (p + n) := by
  unfold seg
  simp only [List.drop_take, List.drop_drop]
  rw [show p + (d - p) = d by omega, show n - (d - p) = p + n - d by omega]
  rw [show p + n = d + (p + n - d) by omega, List.take_add, Nat.add_sub_cancel_left]
theorem max_l {d n : Nat} (h : n ≤ d) : max d n = d := by omega
theorem max_r {d n : Nat} (h : d ≤ n) : max d n = n := by omega
set_option maxHeartbeats 1000000 in
theorem extend_any (log : List UInt8) (m : PkM) (q n d B : Nat) (v : Value) (a : Option Addr) (c : Nat) (w : World) (hm : m.pos = q) (hL : log.length ≤ 1048576) (hO : Owns w B 5 v (bvs (log.take d))) (hd : d ≤ log.length) (hx : Bytes w a n c (seg log (q, n))) (hqd : q ≤ d) (hqn : q + n ≤ log.length) (hB : B ≤ w.heap.size) :
    Calls Try.prog 33 #[v, .agg #[.int .i64 m.se, .int .i64 m.pos, .slice a n c, .int .u64 (m.su.toNat : Int)]] w fun e w' => ∃ v', e = .returned v' ∧ Owns w' B 5 v' (bvs (log.take (max d (q + n)))) ∧ Grew w w' v v' := by
  have hbx : Below w.heap.size w (w.alloc (.cells #[.int .i64 m.se, .int .i64 m.pos, .slice a n c, .int .u64 (m.su.toNat : Int)] 35)) := (Below.refl _ _).alloc (Nat.le_refl _) _
  have HOx := Lib.hid (hO.later hbx)
  have HX := Lib.hid (hx.below hbx)
  subst hm
  obtain ⟨a0, c0, rfl, -⟩ := hO.form
  have hl : (bvs (log.take d)).length = d := by rw [bvs_length, List.length_take]; omega
  rw [hl] at HOx hO ⊢
  have hnc := hx.2.1
  have hcm := hx.2.2.1
  unfold maxLen at hcm
  generalize hk : d - m.pos = k at *
  by_cases hlt : k < n
  · have HX1 := Lib.hid (by have h := HX.out.sub k (n - k) (by omega); rw [if_neg (show ¬ c = k by omega), List.take_of_length_le (by rw [List.length_drop, HX.out.1]; omega)] at h; exact h)
    have HL := Lib.hid HX1.out.1
    have HT := Lib.hid (show bvs (log.take d) ++ bvs ((seg log (m.pos, n)).drop k) = bvs (log.take (max d (m.pos + n))) by rw [← bvs_append, ← hk, take_seg hqd (by omega), max_r (by omega)])
    obtain ⟨b, o, rfl, -, -⟩ := hx.2.at (k := 0) (by omega)
    have hck : ¬ c = k := by omega
    have d0 : decide ((d : Int) - m.pos < n) = true := decide_eq_true (by omega)
    have hkn : k ≤ n := by omega
    have hlt2 : (d : Int) - m.pos < n := by omega
    generalize (seg log (m.pos, n)).drop k = tl at *
    simp only [Option.map_some, addr_add] at HX1
    have hsz : B ≤ (w.alloc (.cells #[.int .i64 m.se, .int .i64 m.pos, .slice (some ⟨b, o, none⟩) n c, .int .u64 (m.su.toNat : Int)] 35)).heap.size := by simp; omega
    clear hx hO HX
    go_enter Try.func33, Try.ntmps33
    go_wp2_with (at_builtin; go_must (refine wpList_app rfl _ _ 22 rfl B 5 (.int .u8 0) 1 Try.underlying22 infoByte rfl (.slice a0 d c0) (bvs (log.take d)) rfl HOx.out (some ⟨b, o + k, none⟩) (n - k) (c - k) (bvs tl) rfl (by rw [bvs_length]; exact HL.out) HX1.out.vals (bvs_one _) (by rw [hl]; omega) (by rw [hl]; simp only [maxLen]; omega) hsz fun v1 w1 g1 g2 => ?_))
    rw [HT.out] at g1
    have G1 := Lib.hid g1
    have G2 := Lib.hid (Grew.after hbx rfl g2)
    clear g1 g2
    go_wp2_with fail
    go_ret
    exact ⟨_, rfl, G1.out, G2.out⟩
  · have d0 : decide ((d : Int) - m.pos < n) = false := decide_eq_false (by omega)
    have HT := Lib.hid (show bvs (log.take d) = bvs (log.take (max d (m.pos + n))) by rw [max_l (by omega)])
    have hge : (n : Int) ≤ (d : Int) - m.pos := by omega
    clear hx hO HX
    go_enter Try.func33, Try.ntmps33
    go_wp2_with fail
    go_ret
    exact ⟨_, rfl, by rw [← HT.out]; exact HOx.out, Grew.after hbx rfl (Grew.refl _ _)⟩

end Go.Proofs.Ytpdodapdaeochaa
