/- Uploads: what fleet and state return. No condition. -/
import Derived.Test.YtpdodapdaeochaaUpO
namespace Go.Proofs.Ytpdodapdaeochaa
set_option maxRecDepth 100000
open Go.RowKit

def fleetN (m s1 s2 : Nat) : Nat := cutN m 0 s1 + cutN m 0 s2
def fleetQ (m s1 s2 i : Nat) : PK := if i < cutN m 0 s1 then cutP m 0 s1 i else cutP m 0 s2 (i - cutN m 0 s1)
theorem cutN_le {m s : Nat} (hs : 1 ≤ s) : cutN m 0 s ≤ m := by
  unfold cutN
  rw [Nat.sub_zero]
  rcases Nat.eq_zero_or_pos m with h | h
  · subst h; rw [Nat.div_eq_of_lt (by omega)]; omega
  · refine Nat.div_le_of_le_mul ?_
    have : m + s - 1 ≤ s * m := by
      obtain ⟨s', rfl⟩ : ∃ s', s = s' + 1 := ⟨s - 1, by omega⟩
      obtain ⟨m', rfl⟩ : ∃ m', m = m' + 1 := ⟨m - 1, by omega⟩
      rw [Nat.add_mul, Nat.mul_add]; omega
    omega
theorem cutP_good {log : List UInt8} {fr s i : Nat} (hs : 1 ≤ s) (hs2 : s ≤ 2000) (hf : fr ≤ log.length) (hi : i < cutN log.length fr s) : GoodQ log (cutP log.length fr s i) := by
  have := (cutN_iff hs hf).1 hi
  unfold cutP GoodQ
  refine ⟨?_, ?_, ?_⟩ <;> show _ ≤ _ <;> simp only [] <;> omega
theorem fleet_good {log : List UInt8} {s1 s2 i : Nat} (h1 : 1 ≤ s1) (h2 : s1 ≤ 2000) (h3 : 1 ≤ s2) (h4 : s2 ≤ 2000) (hi : i < fleetN log.length s1 s2) : GoodQ log (fleetQ log.length s1 s2 i) := by
  unfold fleetN at hi
  unfold fleetQ
  split
  · exact cutP_good h1 h2 (by omega) (by assumption)
  · exact cutP_good h3 h4 (by omega) (by omega)

/-- append of all packets of a list, in a walk -/
theorem PksIn.news {w : World} {a : Option Addr} {n c : Nat} {f : Nat → PkM} (h : PksIn w a n c f) : ∃ news : List Value, news.length = n * 4 ∧ (∀ ad, a = some ad → ∀ (j : Nat) (u : Value), news[j]? = some u → w.cell? (ad.add j) = some u) ∧ (∀ u ∈ news, u.oneCell' = true) ∧
    ∀ i, i < n → ∃ a2 m c2, news.getD (i * 4) .nilFunc = .int .i64 (f i).se ∧ news.getD (i * 4 + 1) .nilFunc = .int .i64 (f i).pos ∧ news.getD (i * 4 + 2) .nilFunc = .slice a2 m c2 ∧ news.getD (i * 4 + 3) .nilFunc = .int .u64 ((f i).su.toNat : Int) ∧ Bytes w a2 m c2 (f i).da := by
  obtain ⟨h1, h2, h3, h4⟩ := h
  rcases h4 with h4 | ⟨b, off, rfl, hlt, hc⟩
  · subst h4
    exact ⟨[], by simp, by simp, by simp, by omega⟩
  · have hcell : ∀ i, i < n → ∀ j, j < 4 → ∃ u, w.cell? ⟨b, off + (i * 4 + j), none⟩ = some u ∧ u.oneCell' = true := by
      intro i hi j hj
      obtain ⟨a2, m, c2, e0, e1, e2, e3, -⟩ := hc i hi
      rcases j with _ | _ | _ | _ | j
      · exact ⟨_, e0, rfl⟩
      · exact ⟨_, e1, rfl⟩
      · exact ⟨_, e2, rfl⟩
      · exact ⟨_, e3, rfl⟩
      · omega
    have hall : ∀ j, j < n * 4 → ∃ u, w.cell? ⟨b, off + j, none⟩ = some u ∧ u.oneCell' = true := by
      intro j hj
      have := hcell (j / 4) (by omega) (j % 4) (by omega)
      rwa [show j / 4 * 4 + j % 4 = j by omega] at this
    have hget : ∀ j, j < n * 4 → ((List.range (n * 4)).map (fun j => (w.cell? ⟨b, off + j, none⟩).getD .nilFunc)).getD j .nilFunc = (w.cell? ⟨b, off + j, none⟩).getD .nilFunc := fun j hj => by simp [List.getD, hj]
    refine ⟨(List.range (n * 4)).map (fun j => (w.cell? ⟨b, off + j, none⟩).getD .nilFunc), by simp, fun ad had j u hu => ?_, fun u hu => ?_, fun i hi => ?_⟩
    · cases had
      obtain ⟨hj, hu⟩ := List.getElem?_eq_some_iff.1 hu
      simp at hj hu
      obtain ⟨u', h', -⟩ := hall j hj
      rw [addr_add, ← hu, h']; rfl
    · simp at hu
      obtain ⟨j, hj, rfl⟩ := hu
      obtain ⟨u', h', h''⟩ := hall j hj
      rw [h']; exact h''
    · obtain ⟨a2, m, c2, e0, e1, e2, e3, e4⟩ := hc i hi
      refine ⟨a2, m, c2, ?_, ?_, ?_, ?_, e4⟩
      · rw [hget _ (by omega), e0]; rfl
      · rw [hget _ (by omega), ← Nat.add_assoc, e1]; rfl
      · rw [hget _ (by omega), ← Nat.add_assoc, e2]; rfl
      · rw [hget _ (by omega), ← Nat.add_assoc, e3]; rfl
theorem PU.all {w0 w w' : World} {B k n : Nat} {v v' : Value} {f h : Nat → PkM} {cs news : List Value} (hb : Below w0.heap.size w0 w) (hB : w0.heap.size ≤ B)
    (hO : OwnsK w B 35 4 v k cs) (hf : ∀ i, i < k → PUi w v cs i (f i)) (hn : ∀ i, i < n → ∃ a2 m c2, news.getD (i * 4) .nilFunc = .int .i64 (h i).se ∧ news.getD (i * 4 + 1) .nilFunc = .int .i64 (h i).pos ∧ news.getD (i * 4 + 2) .nilFunc = .slice a2 m c2 ∧ news.getD (i * 4 + 3) .nilFunc = .int .u64 ((h i).su.toNat : Int) ∧ Bytes w0 a2 m c2 (h i).da)
    (hG : Grew w w' v v') : ∀ i, i < k + n → PUi w' v' (cs ++ news) i (if i < k then f i else h (i - k)) := by
  have hcl : cs.length = k * 4 := hO.1
  have hlo : ∀ j, j < k * 4 → (cs ++ news).getD j .nilFunc = cs.getD j .nilFunc := fun j hj => by simp [List.getD, List.getElem?_append_left (by omega : j < cs.length)]
  have hhi : ∀ j, (cs ++ news).getD (k * 4 + j) .nilFunc = news.getD j .nilFunc := fun j => by
    simp only [List.getD]
    rw [List.getElem?_append_right (by omega), show k * 4 + j - cs.length = j by omega]
  intro i hi
  by_cases hik : i < k
  · rw [if_pos hik]
    obtain ⟨a2, m, c2, e0, e1, e2, e3, e4, e5⟩ := hf i hik
    obtain ⟨p1, p2⟩ := OffB.grew e4 hG e5
    exact ⟨a2, m, c2, by rw [hlo _ (by omega)]; exact e0, by rw [hlo _ (by omega)]; exact e1, by rw [hlo _ (by omega)]; exact e2, by rw [hlo _ (by omega)]; exact e3, p1, p2⟩
  · rw [if_neg hik]
    obtain ⟨a2, m, c2, e0, e1, e2, e3, e4⟩ := hn (i - k) (by omega)
    have hoff : ∀ g, v.ownBlock = some g → OffB g a2 m := fun g hg => e4.offNew (Nat.le_trans hB (hO.lt g hg))
    obtain ⟨p1, p2⟩ := OffB.grew (e4.below hb) hG hoff
    exact ⟨a2, m, c2, by rw [show i * 4 = k * 4 + (i - k) * 4 by omega, hhi]; exact e0, by rw [show i * 4 + 1 = k * 4 + ((i - k) * 4 + 1) by omega, hhi]; exact e1, by rw [show i * 4 + 2 = k * 4 + ((i - k) * 4 + 2) by omega, hhi]; exact e2, by rw [show i * 4 + 3 = k * 4 + ((i - k) * 4 + 3) by omega, hhi]; exact e3, p1, p2⟩
theorem wpList_appPks {P : Program} {w : World} {ops : Array Oper} {rest : List Oper} {o : Oper} {a : Act} {Q : Exit → Act → World → Prop} (hgd : o.guard = none) (s x : Operand) (t : TypeId)
    (ho : o.op = .call { callee := .builtin .append, args := #[s, x], argTypes := #[t, t] })
    (B : Nat) (z : Value) (ht : P.underlying t = some (.slice 35)) (hi : (P.info? 35).map (fun i => (i.zero, i.size, i.bytes)) = some (some z, 4, 48)) (hz1 : z.cells.size = 4)
    (v : Value) (k : Nat) (f : Nat → PkM) (hs : a.eval s = v) (hown : PU w B v k f) (w0 : World) (ad : Option Addr) (n c : Nat) (h : Nat → PkM) (hx : a.eval x = .slice ad n c) (hh : PksIn w0 ad n c h) (hb : Below w0.heap.size w0 w) (hB : w0.heap.size ≤ B) (hk : k + n ≤ 1000000) (hbase : B ≤ w.heap.size)
    (hK : ∀ v' w', PU w' B v' (k + n) (fun i => if i < k then f i else h (i - k)) → Grew w w' v v' → wpList P ops Q rest (a.put o.dst v') w') : wpList P ops Q (o :: rest) a w := by
  obtain ⟨cs, hO, hf⟩ := hown
  obtain ⟨news, hl, hc, h1, hn⟩ := hh.news
  cases ad with
  | none =>
    obtain ⟨g1, g2, g3, -⟩ := hh
    have hc0 := g3 rfl
    have hn0 : n = 0 := by omega
    subst hn0; subst hc0
    have hnil : news = [] := List.eq_nil_of_length_eq_zero (by simpa using hl)
    subst hnil
    refine wpList_appKs hgd s x t ho B _ 4 (by omega) z 48 ht hi hz1 v k cs hs hO none 0 0 [] hx rfl (.inl ⟨rfl, rfl, rfl⟩) (by simp) (by omega) (by simp only [maxLen]; omega) hbase fun v' w' g4 g5 => hK v' w' ⟨_, g4, PU.all (news := []) (n := 0) hb hB hO hf hn g5⟩ g5
  | some ad =>
    refine wpList_plain hgd fun _ hK' => wp_appK s x t ho B _ 4 (by omega) z 48 ht hi hz1 v k cs hs hO ad n c news hx hl (fun j u hj => ?_) h1 (by omega) (by simp only [maxLen]; omega) hbase fun v' w' g4 g5 => hK' _ _ (hK v' w' ⟨_, g4, PU.all hb hB hO hf hn g5⟩ g5)
    have hj2 : j < news.length := (List.getElem?_eq_some_iff.1 hj).1
    have h5 := hc ad rfl j u hj
    obtain ⟨b, off, e, hlt, -⟩ := hh.at (k := 0) (by omega)
    cases e
    rw [addr_add] at h5 ⊢
    rw [hb.cell (p := ⟨b, off + j, none⟩) hlt]; exact h5
set_option maxHeartbeats 2000000 in
theorem fleet_le (xs : List UInt8) (x y : UInt8) (a : Option Addr) (len cap s1 s2 : Nat) (w : World) (hx : Bytes w a len cap xs) (hm : len ≤ 80) (h1 : s1 = x.toNat % 16 + 1) (h2 : s2 = y.toNat % 16 + 1) :
    Calls Try.prog 9 #[.slice a len cap, .agg #[.int .u8 (x.toNat : Int), .int .u8 (y.toNat : Int)]] w fun e w' => ∃ b c, e = .returned (.tuple #[.slice b (fleetN len s1 s2) c, .slice a len cap, .bool true]) ∧ PksIn w' b (fleetN len s1 s2) c (fun i => pk 5 (xs.take len) (fleetQ len s1 s2 i)) ∧ Below w.heap.size w w' := by
  have hle : (len : Int) ≤ 80 := by omega
  have hmc : len ≤ cap := Nat.le_trans (by omega) hx.2.1
  have HX := Lib.hid (hx.pre len (by omega))
  have hxr := x.toNat_lt
  have hyr := y.toNat_lt
  have hs1 : s1 ≤ 16 := by omega
  have hs2 : s2 ≤ 16 := by omega
  have hs3 : 1 ≤ s1 := by omega
  have hs4 : 1 ≤ s2 := by omega
  have e1 : (x.toNat : Int) % 16 + 1 = s1 := by omega
  have e2 : (y.toNat : Int) % 16 + 1 = s2 := by omega
  have HN1 := Lib.hid (cutN_le (m := len) hs3)
  have HN2 := Lib.hid (cutN_le (m := len) hs4)
  have HC1 := Lib.hid (show OkC (5 : Nat) len 0 (s1 : Int) from ⟨by decide, by omega, by omega, by omega, by have := HN1.out; simp; omega⟩)
  have HC2 := Lib.hid (show OkC (5 : Nat) len 0 (s2 : Int) from ⟨by decide, by omega, by omega, by omega, by have := HN2.out; simp; omega⟩)
  clear hx h1 h2 hxr hyr
  go_enter Try.func9, Try.ntmps9
  go_wp2_with fail
  have hbx : Below w.heap.size w (w.alloc (.cells #[.int .u8 (x.toNat : Int), .int .u8 (y.toNat : Int)] 23)) := ((Below.refl _ _).alloc (Nat.le_refl _) _)
  generalize hWW : (w.alloc (.cells #[.int .u8 (x.toNat : Int), .int .u8 (y.toNat : Int)] 23)) = w0 at *
  replace HX := Lib.hid (HX.out.below hbx)
  have cB0 : w0.cell? ⟨w.heap.size, 0, none⟩ = some (.int .u8 (x.toNat : Int)) := by subst hWW; go_simp
  have cB1 : w0.cell? ⟨w.heap.size, 1, none⟩ = some (.int .u8 (y.toNat : Int)) := by subst hWW; go_simp
  have ltB : w.heap.size < w0.heap.size := by subst hWW; simp
  have hB := hbx
  clear hbx hWW
  refine (split_ok 5 (xs.take len) a len cap s1 _ HX.out HC1.out).mono ?_
  rintro e w1 ⟨b1, c1, rfl, hy1, hb⟩
  replace cB0 := bc hb ltB cB0
  replace cB1 := bc hb ltB cB1
  replace ltB := bl hb ltB
  replace HX := Lib.hid (HX.out.below hb)
  replace hB := hB.trans (hb.mono hB.size)
  have HY1 := Lib.hid hy1
  clear hy1
  clear hb
  go_wp2_with fail
  refine (split_ok 5 (xs.take len) a len cap s2 _ HX.out HC2.out).mono ?_
  rintro e w2 ⟨b2, c2, rfl, hy2, hb⟩
  replace cB0 := bc hb ltB cB0
  replace cB1 := bc hb ltB cB1
  replace ltB := bl hb ltB
  replace HX := Lib.hid (HX.out.below hb)
  replace HY1 := Lib.hid (HY1.out.below hb)
  replace hB := hB.trans (hb.mono hB.size)
  have HY2 := Lib.hid hy2
  clear hy2
  clear hb
  have hN1 := HN1.out
  have hN2 := HN2.out
  have HFn := Lib.hid (show cutN len 0 s1 + cutN len 0 s2 = fleetN len s1 s2 from rfl)
  have HQ := Lib.hid (show ∀ i, (if i < cutN len 0 s1 then pk 5 (xs.take len) (cutP len 0 s1 i) else pk 5 (xs.take len) (cutP len 0 s2 (i - cutN len 0 s1))) = pk 5 (xs.take len) (fleetQ len s1 s2 i) from fun i => by unfold fleetQ; split <;> rfl)
  generalize cutN len 0 s1 = n1 at *
  generalize cutN len 0 s2 = n2 at *
  have hbx : Below w2.heap.size w2 (w2.alloc (.cells #[] 35)) := (Below.refl _ _).alloc (Nat.le_refl _) _
  have HO := Lib.hid (show PU (w2.alloc (.cells #[] 35)) w2.heap.size (.slice (some ⟨w2.heap.size, 0, none⟩) 0 0) 0 (fun _ => PkM.zero) from ⟨[], ⟨rfl, .inr ⟨w2.heap.size, 0, #[], rfl, Nat.le_refl _, heap_alloc_new _ _, Nat.le_refl _, by simp [maxLen], rfl, rfl⟩⟩, fun i hi => by omega⟩)
  have hsz : (w2.alloc (.cells #[] 35)).heap.size = w2.heap.size + 1 := by simp
  have HB2 := Lib.hid hB
  clear hB
  go_wp2_with (at_builtin; go_must (first
    | (refine wpList_appPks rfl _ _ 24 rfl w2.heap.size _ Try.underlying24 infoPacket rfl (.slice (some ⟨w2.heap.size, 0, none⟩) 0 0) 0 (fun _ => PkM.zero) rfl HO.out w2 b1 n1 c1 _ rfl HY1.out hbx (Nat.le_refl _) (by omega) (by omega) fun v3 w3 g1 g2 => ?_
       have hb3 : Below w2.heap.size w2 w3 := hbx.trans (g2.below (by omega) (fun j hj => by simp [Value.ownBlock] at hj; omega))
       have G1 := Lib.hid g1
       have hs3' : w2.heap.size ≤ w3.heap.size := hb3.size
       clear g1 g2 HO)
    | refine wpList_appPks rfl _ _ 24 rfl w2.heap.size _ Try.underlying24 infoPacket rfl _ (0 + n1) _ rfl G1.out w2 b2 n2 c2 _ rfl HY2.out hb3 (Nat.le_refl _) (by omega) (by omega) fun v4 w4 g3 g4 => ?_))
  have hb4 : Below w2.heap.size w2 w4 := hb3.trans (g4.below hs3' (fun j hj => by obtain ⟨cs, g5, -⟩ := G1.out; exact g5.lt j hj))
  have g6 := (show PU w4 w2.heap.size v4 (n1 + n2) (fun i => pk 5 (xs.take len) (fleetQ len s1 s2 i)) by
    rw [Nat.zero_add] at g3
    exact g3.congr fun i hi => by
      rw [← HQ.out]
      simp)
  rw [HFn.out] at g6
  obtain ⟨b5, c5, rfl, g7⟩ := g6.in
  have G7 := Lib.hid g7
  have hB4 := HB2.out.trans (hb4.mono HB2.out.size)
  clear g3 g4 g6 g7
  go_wp2_with fail
  go_ret3
  exact ⟨b5, c5, rfl, G7.out, hB4⟩
set_option maxHeartbeats 2000000 in
theorem fleet_gt (xs : List UInt8) (x y : UInt8) (a : Option Addr) (len cap s1 s2 : Nat) (w : World) (hx : Bytes w a len cap xs) (hm : 80 < len) (h1 : s1 = x.toNat % 16 + 1) (h2 : s2 = y.toNat % 16 + 1) :
    Calls Try.prog 9 #[.slice a len cap, .agg #[.int .u8 (x.toNat : Int), .int .u8 (y.toNat : Int)]] w fun e w' => ∃ b c, e = .returned (.tuple #[.slice b (fleetN 80 s1 s2) c, .slice a 80 cap, .bool true]) ∧ PksIn w' b (fleetN 80 s1 s2) c (fun i => pk 5 (xs.take 80) (fleetQ 80 s1 s2 i)) ∧ Below w.heap.size w w' := by
  have hle : ¬ (len : Int) ≤ 80 := by omega
  have hmc : 80 ≤ cap := Nat.le_trans (by omega) hx.2.1
  have HX := Lib.hid (hx.pre 80 (by omega))
  have hxr := x.toNat_lt
  have hyr := y.toNat_lt
  have hs1 : s1 ≤ 16 := by omega
  have hs2 : s2 ≤ 16 := by omega
  have hs3 : 1 ≤ s1 := by omega
  have hs4 : 1 ≤ s2 := by omega
  have e1 : (x.toNat : Int) % 16 + 1 = s1 := by omega
  have e2 : (y.toNat : Int) % 16 + 1 = s2 := by omega
  have HN1 := Lib.hid (cutN_le (m := 80) hs3)
  have HN2 := Lib.hid (cutN_le (m := 80) hs4)
  have HC1 := Lib.hid (show OkC (5 : Nat) 80 0 (s1 : Int) from ⟨by decide, by omega, by omega, by omega, by have := HN1.out; simp; omega⟩)
  have HC2 := Lib.hid (show OkC (5 : Nat) 80 0 (s2 : Int) from ⟨by decide, by omega, by omega, by omega, by have := HN2.out; simp; omega⟩)
  clear hx h1 h2 hxr hyr
  go_enter Try.func9, Try.ntmps9
  go_wp2_with fail
  have hbx : Below w.heap.size w (w.alloc (.cells #[.int .u8 (x.toNat : Int), .int .u8 (y.toNat : Int)] 23)) := ((Below.refl _ _).alloc (Nat.le_refl _) _)
  generalize hWW : (w.alloc (.cells #[.int .u8 (x.toNat : Int), .int .u8 (y.toNat : Int)] 23)) = w0 at *
  replace HX := Lib.hid (HX.out.below hbx)
  have cB0 : w0.cell? ⟨w.heap.size, 0, none⟩ = some (.int .u8 (x.toNat : Int)) := by subst hWW; go_simp
  have cB1 : w0.cell? ⟨w.heap.size, 1, none⟩ = some (.int .u8 (y.toNat : Int)) := by subst hWW; go_simp
  have ltB : w.heap.size < w0.heap.size := by subst hWW; simp
  have hB := hbx
  clear hbx hWW
  refine (split_ok 5 (xs.take 80) a 80 cap s1 _ HX.out HC1.out).mono ?_
  rintro e w1 ⟨b1, c1, rfl, hy1, hb⟩
  replace cB0 := bc hb ltB cB0
  replace cB1 := bc hb ltB cB1
  replace ltB := bl hb ltB
  replace HX := Lib.hid (HX.out.below hb)
  replace hB := hB.trans (hb.mono hB.size)
  have HY1 := Lib.hid hy1
  clear hy1
  clear hb
  go_wp2_with fail
  refine (split_ok 5 (xs.take 80) a 80 cap s2 _ HX.out HC2.out).mono ?_
  rintro e w2 ⟨b2, c2, rfl, hy2, hb⟩
  replace cB0 := bc hb ltB cB0
  replace cB1 := bc hb ltB cB1
  replace ltB := bl hb ltB
  replace HX := Lib.hid (HX.out.below hb)
  replace HY1 := Lib.hid (HY1.out.below hb)
  replace hB := hB.trans (hb.mono hB.size)
  have HY2 := Lib.hid hy2
  clear hy2
  clear hb
  have hN1 := HN1.out
  have hN2 := HN2.out
  have HFn := Lib.hid (show cutN 80 0 s1 + cutN 80 0 s2 = fleetN 80 s1 s2 from rfl)
  have HQ := Lib.hid (show ∀ i, (if i < cutN 80 0 s1 then pk 5 (xs.take 80) (cutP 80 0 s1 i) else pk 5 (xs.take 80) (cutP 80 0 s2 (i - cutN 80 0 s1))) = pk 5 (xs.take 80) (fleetQ 80 s1 s2 i) from fun i => by unfold fleetQ; split <;> rfl)
  generalize cutN 80 0 s1 = n1 at *
  generalize cutN 80 0 s2 = n2 at *
  have hbx : Below w2.heap.size w2 (w2.alloc (.cells #[] 35)) := (Below.refl _ _).alloc (Nat.le_refl _) _
  have HO := Lib.hid (show PU (w2.alloc (.cells #[] 35)) w2.heap.size (.slice (some ⟨w2.heap.size, 0, none⟩) 0 0) 0 (fun _ => PkM.zero) from ⟨[], ⟨rfl, .inr ⟨w2.heap.size, 0, #[], rfl, Nat.le_refl _, heap_alloc_new _ _, Nat.le_refl _, by simp [maxLen], rfl, rfl⟩⟩, fun i hi => by omega⟩)
  have hsz : (w2.alloc (.cells #[] 35)).heap.size = w2.heap.size + 1 := by simp
  have HB2 := Lib.hid hB
  clear hB
  go_wp2_with (at_builtin; go_must (first
    | (refine wpList_appPks rfl _ _ 24 rfl w2.heap.size _ Try.underlying24 infoPacket rfl (.slice (some ⟨w2.heap.size, 0, none⟩) 0 0) 0 (fun _ => PkM.zero) rfl HO.out w2 b1 n1 c1 _ rfl HY1.out hbx (Nat.le_refl _) (by omega) (by omega) fun v3 w3 g1 g2 => ?_
       have hb3 : Below w2.heap.size w2 w3 := hbx.trans (g2.below (by omega) (fun j hj => by simp [Value.ownBlock] at hj; omega))
       have G1 := Lib.hid g1
       have hs3' : w2.heap.size ≤ w3.heap.size := hb3.size
       clear g1 g2 HO)
    | refine wpList_appPks rfl _ _ 24 rfl w2.heap.size _ Try.underlying24 infoPacket rfl _ (0 + n1) _ rfl G1.out w2 b2 n2 c2 _ rfl HY2.out hb3 (Nat.le_refl _) (by omega) (by omega) fun v4 w4 g3 g4 => ?_))
  have hb4 : Below w2.heap.size w2 w4 := hb3.trans (g4.below hs3' (fun j hj => by obtain ⟨cs, g5, -⟩ := G1.out; exact g5.lt j hj))
  have g6 := (show PU w4 w2.heap.size v4 (n1 + n2) (fun i => pk 5 (xs.take 80) (fleetQ 80 s1 s2 i)) by
    rw [Nat.zero_add] at g3
    exact g3.congr fun i hi => by
      rw [← HQ.out]
      simp)
  rw [HFn.out] at g6
  obtain ⟨b5, c5, rfl, g7⟩ := g6.in
  have G7 := Lib.hid g7
  have hB4 := HB2.out.trans (hb4.mono HB2.out.size)
  clear g3 g4 g6 g7
  go_wp2_with fail
  go_ret3
  exact ⟨b5, c5, rfl, G7.out, hB4⟩
theorem fleet_any (xs : List UInt8) (x y : UInt8) (a : Option Addr) (len cap m s1 s2 : Nat) (w : World) (hx : Bytes w a len cap xs) (hm : m = min len 80) (h1 : s1 = x.toNat % 16 + 1) (h2 : s2 = y.toNat % 16 + 1) :
    Calls Try.prog 9 #[.slice a len cap, .agg #[.int .u8 (x.toNat : Int), .int .u8 (y.toNat : Int)]] w fun e w' => ∃ b c, e = .returned (.tuple #[.slice b (fleetN m s1 s2) c, .slice a m cap, .bool true]) ∧ PksIn w' b (fleetN m s1 s2) c (fun i => pk 5 (xs.take m) (fleetQ m s1 s2 i)) ∧ Below w.heap.size w w' := by
  by_cases h : len ≤ 80
  · obtain rfl : m = len := by omega
    exact fleet_le xs x y a m cap s1 s2 w hx h h1 h2
  · obtain rfl : m = 80 := by omega
    exact fleet_gt xs x y a len cap s1 s2 w hx (by omega) h1 h2
/-- the packets of a set, all of a list -/
def From (n : Nat) (L : Nat → PK) (S : PK → Prop) : Prop := ∀ q, S q → ∃ i, i < n ∧ q = L i
/-- what is known of an inbox that has got packets of a list -/
structure St (log : List UInt8) (n : Nat) (L : Nat → PK) (S : PK → Prop) (d : Nat) (l : List PK) (j : Nat) : Prop where
  inb : Inb 5 log d l
  can : Can S d l
  from_ : From n L S
  len : l.length ≤ j
theorem St.start {log : List UInt8} {n : Nat} {L : Nat → PK} (hL : log.length ≤ 1048576) : St log n L (fun _ => False) 0 [] 0 :=
  ⟨Inb.of (by decide) hL (Nat.zero_le _) (by simp) (by simp [Srt]) (by simp), can_none, fun _ h => h.elim, Nat.le_refl _⟩
theorem St.step {log : List UInt8} {n : Nat} {L : Nat → PK} {S : PK → Prop} {d : Nat} {l : List PK} {j i : Nat} (h : St log n L S d l j) (hj : j < 900) (hi : i < n) (hg : GoodQ log (L i)) : St log n L (fun q => q = L i ∨ S q) (rxN d l (L i)).1 (rxN d l (L i)).2 (j + 1) ∧ d ≤ (rxN d l (L i)).1 := by
  have hl := h.len
  obtain ⟨a, b, c⟩ := rx_inb h.inb hg (by omega)
  refine ⟨⟨a, can_step h.can, fun q hq => ?_, by omega⟩, c⟩
  rcases hq with rfl | hq
  · exact ⟨i, hi, rfl⟩
  · exact h.from_ q hq

end Go.Proofs.Ytpdodapdaeochaa
