/- Plain facts on a loader's store: records, leading, running, installing. No program is in sight here. -/
import Derived.Test.YtapefonhgkjgnaaGreatLdD
import Derived.Test.YtapefonhgkjgnaaGreatLdP
namespace Go.Proofs.YtapefonhgkjgnaaGreat
namespace Ld
open Dig Sgn

/-- A record. -/
structure Rec where
  bank : Nat
  chunks : Nat
  number : Nat
  dg : D
def recOf (b : List UInt8) : Rec := ⟨(b.getD 4 0).toNat, (b.getD 5 0).toNat, nat (b.take 4), wd b 6 8⟩
def okR (b : List UInt8) : Bool := decide (b.length = 14) && (decide ((b.getD 4 0).toNat ≤ 1) && (decide (1 ≤ (b.getD 5 0).toNat) && decide ((b.getD 5 0).toNat ≤ 16)))
theorem okR_iff (b : List UInt8) : okR b = true ↔ b.length = 14 ∧ (recOf b).bank ≤ 1 ∧ 1 ≤ (recOf b).chunks ∧ (recOf b).chunks ≤ 16 := by
  unfold okR recOf
  simp only [Bool.and_eq_true, decide_eq_true_eq]
def rbytes (r : Rec) : List UInt8 := le r.number 4 ++ [UInt8.ofNat r.bank, UInt8.ofNat r.chunks] ++ Dig.bytes r.dg
theorem rbytes_len (r : Rec) : (rbytes r).length = 14 := by
  unfold rbytes
  simp only [List.length_append, le_len, bytes_length, List.length_cons, List.length_nil]
theorem four_le (x : Nat) : ∃ a b c d, le x 4 = [a, b, c, d] := ⟨_, _, _, _, rfl⟩
theorem recOf_rbytes (r : Rec) (hb : r.bank ≤ 1) (hc : r.chunks ≤ 16) (hn : r.number < 4294967296) : recOf (rbytes r) = r := by
  obtain ⟨bk, ck, nm, dg⟩ := r
  simp only at hb hc hn
  obtain ⟨a, b, c, d, h4⟩ := four_le nm
  have hr : rbytes ⟨bk, ck, nm, dg⟩ = a :: b :: c :: d :: UInt8.ofNat bk :: UInt8.ofNat ck :: Dig.bytes dg := by
    unfold rbytes; simp only [h4]; rfl
  have e1 : ((rbytes ⟨bk, ck, nm, dg⟩).getD 4 0).toNat = bk := by
    rw [hr]; show (UInt8.ofNat bk).toNat = bk; rw [UInt8.toNat_ofNat']; omega
  have e2 : ((rbytes ⟨bk, ck, nm, dg⟩).getD 5 0).toNat = ck := by
    rw [hr]; show (UInt8.ofNat ck).toNat = ck; rw [UInt8.toNat_ofNat']; omega
  have e3 : nat ((rbytes ⟨bk, ck, nm, dg⟩).take 4) = nm := by
    rw [hr]; show nat [a, b, c, d] = nm; rw [← h4, nat_le]; omega
  have e4 : wd (rbytes ⟨bk, ck, nm, dg⟩) 6 8 = dg := by
    refine wd_bytes _ _ _ fun i hi => ?_
    rw [← bytes_getD dg i hi]
    have h6 : (le nm 4 ++ [UInt8.ofNat bk, UInt8.ofNat ck]).length = 6 := by simp only [List.length_append, le_len, List.length_cons, List.length_nil]
    unfold rbytes
    rw [← h6, getD_app2]
  unfold recOf
  rw [e1, e2, e3, e4]
theorem okR_rbytes (r : Rec) (hb : r.bank ≤ 1) (h1 : 1 ≤ r.chunks) (hc : r.chunks ≤ 16) (hn : r.number < 4294967296) : okR (rbytes r) = true :=
  (okR_iff _).2 ⟨rbytes_len r, by rw [recOf_rbytes r hb hc hn]; exact ⟨hb, h1, hc⟩⟩

/-- The data of n blocks from block p on. -/
def gat (ls : List (List UInt8)) (p : Nat) : Nat → List UInt8
  | 0 => []
  | n + 1 => gat ls p n ++ rdM ls ((p + n : Nat) : Int)
def gok (ls : List (List UInt8)) (p : Nat) : Nat → Bool
  | 0 => true
  | n + 1 => gok ls p n && (rdC ls ((p + n : Nat) : Int) == 0)
theorem gok_iff (ls : List (List UInt8)) (p : Nat) : ∀ n, gok ls p n = true ↔ ∀ k, k < n → rdC ls ((p + k : Nat) : Int) = 0
  | 0 => ⟨fun _ k h => absurd h (Nat.not_lt_zero k), fun _ => rfl⟩
  | n + 1 => by
    unfold gok
    rw [Bool.and_eq_true, gok_iff ls p n, beq_iff_eq]
    constructor
    · rintro ⟨h, h1⟩ k hk
      by_cases hn : k < n
      · exact h k hn
      · obtain rfl : k = n := by omega
        exact h1
    · intro h; exact ⟨fun k hk => h k (by omega), h n (by omega)⟩
theorem gok_no (ls : List (List UInt8)) (p n k : Nat) (hk : k < n) (h : rdC ls ((p + k : Nat) : Int) ≠ 0) : gok ls p n = false := by
  cases hg : gok ls p n with
  | false => rfl
  | true => exact absurd ((gok_iff ls p n).1 hg k hk) h
def ldR (ls : List (List UInt8)) (i : Nat) : Rec := recOf (rdM ls (i : Int))
def ldF (ls : List (List UInt8)) (i : Nat) : List UInt8 := gat ls (2 + 16 * (ldR ls i).bank) (ldR ls i).chunks
def ldS (ls : List (List UInt8)) (i : Nat) : Sw := swOf (ldF ls i)
/-- Whether record i leads to software. -/
def okL (ls : List (List UInt8)) (i : Nat) (root : D) (h : Int) : Bool :=
  (rdC ls (i : Int) == 0) && (okR (rdM ls (i : Int)) && (gok ls (2 + 16 * (ldR ls i).bank) (ldR ls i).chunks && (okU (ldF ls i) && ((ofL (ldF ls i) == (ldR ls i).dg) && genu (ldS ls i) root h))))
theorem okL_iff (ls : List (List UInt8)) (i : Nat) (root : D) (h : Int) : okL ls i root h = true ↔ rdC ls (i : Int) = 0 ∧ okR (rdM ls (i : Int)) = true ∧ gok ls (2 + 16 * (ldR ls i).bank) (ldR ls i).chunks = true ∧ okU (ldF ls i) = true ∧ ofL (ldF ls i) = (ldR ls i).dg ∧ genu (ldS ls i) root h = true := by
  unfold okL
  simp only [Bool.and_eq_true, beq_iff_eq]
/-- The index of the running record, or -1. -/
def atR (ls : List (List UInt8)) (root : D) (h : Int) : Int :=
  if (okL ls 0 root h && (!okL ls 1 root h || decide ((ldR ls 1).number ≤ (ldR ls 0).number))) = true then 0 else if okL ls 1 root h = true then 1 else -1
def usable (ls : List (List UInt8)) : Bool := vldS ls && decide (ls.length = 34)
/-- The code of Running. -/
def cdR (ls : List (List UInt8)) (root : D) (h : Int) : Int := if usable ls = true then (if atR ls root h < 0 then 6 else 0) else 2
/-- The code of Install. -/
def cdI (ls : List (List UInt8)) (s : Sw) (root : D) (h : Int) : Int :=
  if (usable ls && s.vld) = true then (if genu s root h = true then (if 0 ≤ atR ls root h then (if s.ver ≤ (ldS ls (atR ls root h).toNat).ver then 382 else if (ldR ls (atR ls root h).toNat).number = 4294967295 then 4 else 0) else 0) else 381) else 2
def nBank (ls : List (List UInt8)) (root : D) (h : Int) : Nat := if 0 ≤ atR ls root h then 1 - (ldR ls (atR ls root h).toNat).bank else 0
def nNum (ls : List (List UInt8)) (root : D) (h : Int) : Nat := if 0 ≤ atR ls root h then (ldR ls (atR ls root h).toNat).number + 1 else 1
def nTo (ls : List (List UInt8)) (root : D) (h : Int) : Nat := if 0 ≤ atR ls root h then 1 - (atR ls root h).toNat else 0
/-- The number of chunks. -/
def ckN (f : List UInt8) : Nat := (f.length + 47) / 48
def ck (f : List UInt8) (k : Nat) : List UInt8 := (f.drop (48 * k)).take 48
theorem ck_len (f : List UInt8) (k : Nat) : (ck f k).length ≤ 48 := by unfold ck; rw [List.length_take]; omega
/-- An operation, without the place of its data. -/
def opP (o : OpV) : Int × Bool × List UInt8 := (o.blk, o.er, o.d)
def ckO (f : List UInt8) (nb k : Nat) : Int × Bool × List UInt8 := (((2 + 16 * nb + k : Nat) : Int), false, ck f k)
def opsP (f : List UInt8) (nb m to : Nat) (rb : List UInt8) : List (Int × Bool × List UInt8) := (List.range m).map (ckO f nb) ++ [((to : Int), false, rb)]
def nRec (ls : List (List UInt8)) (s : Sw) (root : D) (h : Int) : Rec := ⟨nBank ls root h, ckN (form s), nNum ls root h, ofL (form s)⟩
/-- The operations that Install returns. -/
def insP (ls : List (List UInt8)) (s : Sw) (root : D) (h : Int) : List (Int × Bool × List UInt8) :=
  if cdI ls s root h = 0 then opsP (form s) (nBank ls root h) (ckN (form s)) (nTo ls root h) (rbytes (nRec ls s root h)) else []

/-- A loader's store. -/
def St (ls : List (List UInt8)) : Prop := vldS ls = true ∧ ls.length = 34
theorem St.blk {ls : List (List UInt8)} (h : St ls) (j : Nat) (hj : j < 34) : (ls.getD j []).length = 54 := ((vldS_iff _).1 h.1).2.getD j (by rw [h.2]; exact hj)
theorem St.use {ls : List (List UInt8)} (h : St ls) : usable ls = true := by unfold usable; rw [h.1, h.2]; rfl
theorem St.rdC {ls : List (List UInt8)} (h : St ls) (j : Nat) (hj : j < 34) : rdC ls (j : Int) = readE (ls.getD j []) := rdC_in ls j h.1 (by rw [h.2]; exact hj)
theorem rd_enc {ls : List (List UInt8)} (h : St ls) (j : Nat) (hj : j < 34) {d : List UInt8} (hd : d.length ≤ 48) (e : ls.getD j [] = encL d) : rdC ls (j : Int) = 0 ∧ rdM ls (j : Int) = d := by
  have h0 : Go.Proofs.YtapefonhgkjgnaaGreat.rdC ls (j : Int) = 0 := by rw [h.rdC j hj, e, readE_encL d hd]
  exact ⟨h0, by rw [rdM_in, if_pos h0, e, readD_encL d hd]⟩
theorem rd_eq {ls ms : List (List UInt8)} (h : St ls) (h' : St ms) (j : Nat) (hj : j < 34) (e : ls.getD j [] = ms.getD j []) : rdC ls (j : Int) = rdC ms (j : Int) ∧ rdM ls (j : Int) = rdM ms (j : Int) := by
  have h0 : Go.Proofs.YtapefonhgkjgnaaGreat.rdC ls (j : Int) = Go.Proofs.YtapefonhgkjgnaaGreat.rdC ms (j : Int) := by rw [h.rdC j hj, h'.rdC j hj, e]
  exact ⟨h0, by rw [rdM_in, rdM_in, h0, e]⟩
theorem okL_rec {ls : List (List UInt8)} {i : Nat} {root : D} {g : Int} (h : okL ls i root g = true) : rdC ls (i : Int) = 0 ∧ okR (rdM ls (i : Int)) = true ∧ (ldR ls i).bank ≤ 1 ∧ 1 ≤ (ldR ls i).chunks ∧ (ldR ls i).chunks ≤ 16 := by
  have h := (okL_iff _ _ _ _).1 h
  obtain ⟨_, a, b, c⟩ := (okR_iff _).1 h.2.1
  exact ⟨h.1, h.2.1, a, b, c⟩
theorem okL_read {ls : List (List UInt8)} {i : Nat} {root : D} {g : Int} (h : rdC ls (i : Int) ≠ 0) : okL ls i root g = false := by
  cases hk : okL ls i root g with
  | false => rfl
  | true => exact absurd ((okL_iff _ _ _ _).1 hk).1 h
theorem okL_gok {ls : List (List UInt8)} {i : Nat} {root : D} {g : Int} (h : gok ls (2 + 16 * (ldR ls i).bank) (ldR ls i).chunks = false) : okL ls i root g = false := by
  cases hk : okL ls i root g with
  | false => rfl
  | true => rw [((okL_iff _ _ _ _).1 hk).2.2.1] at h; cases h

/-- The chunks of a form, one after the other. -/
theorem gat_ck {ls : List (List UInt8)} (h : St ls) (f : List UInt8) (nb m : Nat) (hb : nb ≤ 1) (hm : m ≤ 16) (e : ∀ k, k < m → ls.getD (2 + 16 * nb + k) [] = encL (ck f k)) : ∀ n, n ≤ m → gat ls (2 + 16 * nb) n = f.take (48 * n)
  | 0, _ => by simp [gat]
  | n + 1, hn => by
    unfold gat
    rw [gat_ck h f nb m hb hm e n (by omega), (rd_enc h _ (by omega) (ck_len f n) (e n (by omega))).2]
    unfold ck
    rw [show 48 * (n + 1) = 48 * n + 48 by omega, List.take_add]
theorem gok_ck {ls : List (List UInt8)} (h : St ls) (f : List UInt8) (nb m : Nat) (hb : nb ≤ 1) (hm : m ≤ 16) (e : ∀ k, k < m → ls.getD (2 + 16 * nb + k) [] = encL (ck f k)) : gok ls (2 + 16 * nb) m = true :=
  (gok_iff _ _ _).2 fun k hk => (rd_enc h _ (by omega) (ck_len f k) (e k hk)).1
theorem ckN_form (s : Sw) (hv : s.vld = true) : 1 ≤ ckN (form s) ∧ ckN (form s) ≤ 16 ∧ (form s).length ≤ 48 * ckN (form s) := by
  have := form_max s hv
  unfold ckN
  omega
theorem unp_some {d : List UInt8} {s : Sw} (h : unp d = some s) : okU d = true ∧ swOf d = s := by
  unfold unp at h
  by_cases ho : okU d = true
  · rw [if_pos ho] at h; exact ⟨ho, Option.some.inj h⟩
  · rw [if_neg ho] at h; cases h
/-- A record that was written, with its chunks, leads to its software. -/
theorem lead_new {ls : List (List UInt8)} (h : St ls) (i : Nat) (hi : i ≤ 1) (s : Sw) (hN : s.N) (hv : s.vld = true) (root : D) (g : Int) (hg : genu s root g = true) (nb nm : Nat) (hb : nb ≤ 1) (hn : nm < 4294967296)
    (e0 : ls.getD i [] = encL (rbytes ⟨nb, ckN (form s), nm, ofL (form s)⟩)) (e : ∀ k, k < ckN (form s) → ls.getD (2 + 16 * nb + k) [] = encL (ck (form s) k)) :
    okL ls i root g = true ∧ ldR ls i = ⟨nb, ckN (form s), nm, ofL (form s)⟩ ∧ ldS ls i = s := by
  obtain ⟨c1, c2, c3⟩ := ckN_form s hv
  obtain ⟨d0, m0⟩ := rd_enc h i (by omega) (by rw [rbytes_len]; omega) e0
  have hr : ldR ls i = ⟨nb, ckN (form s), nm, ofL (form s)⟩ := by unfold ldR; rw [m0]; exact recOf_rbytes _ hb c2 hn
  have hf : ldF ls i = form s := by
    unfold ldF; rw [hr]; dsimp only
    rw [gat_ck h (form s) nb _ hb c2 e _ (Nat.le_refl _), List.take_of_length_le c3]
  have hu : unp (form s) = some s := form_unp s hN hv
  obtain ⟨hok, hsw⟩ := unp_some hu
  have hs : ldS ls i = s := by unfold ldS; rw [hf, hsw]
  refine ⟨?_, hr, hs⟩
  rw [okL_iff, hs, hf, hr, d0, m0]
  dsimp only
  exact ⟨rfl, okR_rbytes _ hb c1 c2 hn, gok_ck h (form s) nb _ hb c2 e, hok, rfl, hg⟩

/-- Software runs: record a leads to it, and the other record has a smaller number or cannot be read. -/
structure Run (ls : List (List UInt8)) (root : D) (g : Int) (a : Nat) (r : Rec) (s : Sw) : Prop where
  st : St ls
  a1 : a ≤ 1
  ok : okL ls a root g = true
  rc : ldR ls a = r
  sw : ldS ls a = s
  other : rdC ls ((1 - a : Nat) : Int) = 0 → okR (rdM ls ((1 - a : Nat) : Int)) = true → (ldR ls (1 - a)).number < r.number
/-- Neither record can be read. -/
structure Idle (ls : List (List UInt8)) : Prop where
  st : St ls
  r0 : rdC ls ((0 : Nat) : Int) ≠ 0
  r1 : rdC ls ((1 : Nat) : Int) ≠ 0
theorem Idle.at {ls : List (List UInt8)} (h : Idle ls) (root : D) (g : Int) : atR ls root g = -1 := by
  unfold atR; rw [okL_read h.r0, okL_read h.r1]; rfl
theorem Run.oth {ls : List (List UInt8)} {root : D} {g : Int} {a : Nat} {r : Rec} {s : Sw} (h : Run ls root g a r s) : okL ls (1 - a) root g = true → (ldR ls (1 - a)).number < r.number := fun hk => h.other (okL_rec hk).1 (okL_rec hk).2.1
theorem Run.at {ls : List (List UInt8)} {root : D} {g : Int} {a : Nat} {r : Rec} {s : Sw} (h : Run ls root g a r s) : atR ls root g = (a : Int) := by
  have ho := h.oth
  have ha := h.a1
  have hk := h.ok
  have hr := h.rc
  unfold atR
  by_cases h0 : a = 0
  · subst h0
    have ho : okL ls 1 root g = true → (ldR ls 1).number < r.number := ho
    rw [hk, hr]
    cases h1 : okL ls 1 root g with
    | false => rfl
    | true => have := ho h1; simp only [Bool.not_true, Bool.false_or, Bool.true_and]; rw [if_pos (decide_eq_true (by omega))]; rfl
  · obtain rfl : a = 1 := by omega
    have ho : okL ls 0 root g = true → (ldR ls 0).number < r.number := ho
    rw [hk, hr]
    cases h1 : okL ls 0 root g with
    | false => rfl
    | true => have := ho h1; simp only [Bool.not_true, Bool.false_or, Bool.true_and]; rw [if_neg (by simp only [decide_eq_true_eq]; omega)]; rfl
theorem Idle.next {ls ms : List (List UInt8)} (h : Idle ls) (hs : St ms) (root : D) (g : Int) (t : Sw) (hN : t.N) (hv : t.vld = true) (hg : genu t root g = true)
    (e1 : ms.getD 1 [] = ls.getD 1 []) (e0 : ms.getD 0 [] = encL (rbytes ⟨0, ckN (form t), 1, ofL (form t)⟩)) (e : ∀ k, k < ckN (form t) → ms.getD (2 + 16 * 0 + k) [] = encL (ck (form t) k)) :
    Run ms root g 0 ⟨0, ckN (form t), 1, ofL (form t)⟩ t := by
  obtain ⟨l1, l2, l3⟩ := lead_new hs 0 (by omega) t hN hv root g hg 0 1 (by omega) (by omega) e0 e
  refine ⟨hs, by omega, l1, l2, l3, fun c _ => ?_⟩
  have := (rd_eq hs h.st 1 (by omega) e1).1
  exact absurd (this ▸ c) h.r1
/-- What the first n chunks leave. -/
def Cn (ls ms : List (List UInt8)) (f : List UInt8) (nb n : Nat) : Prop :=
  St ms ∧ ∀ j, j < 34 → ms.getD j [] = if 2 + 16 * nb ≤ j ∧ j < 2 + 16 * nb + n then encL (ck f (j - (2 + 16 * nb))) else ls.getD j []
theorem opsP_len (f : List UInt8) (nb m to : Nat) (rb : List UInt8) : (opsP f nb m to rb).length = m + 1 := by unfold opsP; simp
theorem ops_at {os : List OpV} {f : List UInt8} {nb m to : Nat} {rb : List UInt8} (h : os.map opP = opsP f nb m to rb) : os.length = m + 1 ∧ (∀ k, k < m → (os.getD k op0).blk = ((2 + 16 * nb + k : Nat) : Int) ∧ (os.getD k op0).er = false ∧ (os.getD k op0).d = ck f k) ∧ (os.getD m op0).blk = (to : Int) ∧ (os.getD m op0).er = false ∧ (os.getD m op0).d = rb := by
  have hl : os.length = m + 1 := by have := congrArg List.length h; rwa [List.length_map, opsP_len] at this
  have hg : ∀ k, k < m + 1 → (opsP f nb m to rb)[k]? = some (opP (os.getD k op0)) := fun k hk => by
    rw [← h, List.getElem?_map, List.getElem?_eq_getElem (by omega), List.getD_eq_getElem?_getD, List.getElem?_eq_getElem (by omega)]; rfl
  refine ⟨hl, fun k hk => ?_, ?_⟩
  · have := hg k (by omega)
    unfold opsP at this
    rw [List.getElem?_append_left (by simp; omega), List.getElem?_map, List.getElem?_range hk] at this
    have h2 := Option.some.inj this
    unfold ckO opP at h2
    simp only [Prod.mk.injEq] at h2
    exact ⟨h2.1.symm, h2.2.1.symm, h2.2.2.symm⟩
  · have := hg m (by omega)
    unfold opsP at this
    rw [List.getElem?_append_right (by simp), List.length_map, List.length_range, Nat.sub_self] at this
    have h2 := Option.some.inj this
    unfold opP at h2
    simp only [Prod.mk.injEq] at h2
    exact ⟨h2.1.symm, h2.2.1.symm, h2.2.2.symm⟩
theorem St.set {ls : List (List UInt8)} (h : St ls) (o : OpV) (k : Nat) : St (doOp ls o k) := ⟨vldS_doOp ls o k h.1, by rw [doOp_len]; exact h.2⟩
theorem St.doAt {ls : List (List UInt8)} (h : St ls) (o : OpV) (k p : Nat) (hp : o.blk = (p : Int)) (hp34 : p < 34) (j : Nat) : (doOp ls o k).getD j [] = if p = j then doN o.d k (ls.getD p []) else ls.getD j [] := by
  unfold doOp
  rw [hp, Int.toNat_natCast, getD_setL _ _ _ _ (by rw [h.2]; exact hp34)]
theorem runC {ls : List (List UInt8)} {os : List OpV} {f : List UInt8} {nb m to : Nat} {rb : List UInt8} (ho : os.map opP = opsP f nb m to rb) (h : St ls) (hb : nb ≤ 1) (hm : m ≤ 16) : ∀ n, n ≤ m → Cn ls (runL ls (os.take n)) f nb n
  | 0, _ => by
    refine ⟨h, fun j hj => ?_⟩
    rw [if_neg (by omega)]
    simp [runL]
  | n + 1, hn => by
    obtain ⟨hs, he⟩ := runC ho h hb hm n (by omega)
    obtain ⟨hl, hk, _⟩ := ops_at ho
    obtain ⟨b1, b2, b3⟩ := hk n (by omega)
    rw [runL_take ls os n (by omega), b2]
    refine ⟨hs.set _ _, fun j hj => ?_⟩
    rw [hs.doAt _ _ _ b1 (by omega) j]
    by_cases hj1 : 2 + 16 * nb + n = j
    · rw [if_pos hj1, if_pos (by omega), b3]
      show doN (ck f n) (lenO false) _ = _
      rw [show lenO false = 108 from rfl, doN_wr _ _ (hs.blk _ (by omega)) (ck_len f n)]
      rw [show j - (2 + 16 * nb) = n by omega]
    · rw [if_neg hj1, he j hj]
      by_cases hj2 : 2 + 16 * nb ≤ j ∧ j < 2 + 16 * nb + n
      · rw [if_pos hj2, if_pos (by omega)]
      · rw [if_neg hj2, if_neg (by omega)]
/-- What all operations leave. -/
theorem runAll {ls : List (List UInt8)} {os : List OpV} {f : List UInt8} {nb m to : Nat} {rb : List UInt8} (ho : os.map opP = opsP f nb m to rb) (h : St ls) (hb : nb ≤ 1) (hm : m ≤ 16) (ht : to ≤ 1) (hr : rb.length ≤ 48) :
    St (runL ls os) ∧ ∀ j, j < 34 → (runL ls os).getD j [] = if to = j then encL rb else if 2 + 16 * nb ≤ j ∧ j < 2 + 16 * nb + m then encL (ck f (j - (2 + 16 * nb))) else ls.getD j [] := by
  obtain ⟨hs, he⟩ := runC ho h hb hm m (Nat.le_refl _)
  obtain ⟨hl, _, b1, b2, b3⟩ := ops_at ho
  have hx : runL ls os = doOp (runL ls (os.take m)) (os.getD m op0) (lenO (os.getD m op0).er) := by
    rw [← runL_take ls os m (by omega), List.take_of_length_le (by omega)]
  rw [hx, b2]
  refine ⟨hs.set _ _, fun j hj => ?_⟩
  rw [hs.doAt _ _ _ b1 (by omega) j]
  by_cases hj1 : to = j
  · rw [if_pos hj1, if_pos hj1, b3]
    rw [show lenO false = 108 from rfl, doN_wr _ _ (hs.blk _ (by omega)) hr]
  · rw [if_neg hj1, if_neg hj1, he j hj]
theorem vldO_ins {ls : List (List UInt8)} {os : List OpV} {f : List UInt8} {nb m to : Nat} {rb : List UInt8} (ho : os.map opP = opsP f nb m to rb) (h : St ls) (hb : nb ≤ 1) (hm : m ≤ 16) (ht : to ≤ 1) (hr : rb.length ≤ 48) : vldO ls os = true := by
  rw [vldO_iff]
  refine ⟨h.1, fun o hm2 => ?_⟩
  obtain ⟨hl, hk, b1, b2, b3⟩ := ops_at ho
  obtain ⟨k, hk2, rfl⟩ := List.getElem_of_mem hm2
  have hg : os[k] = os.getD k op0 := by rw [List.getD_eq_getElem?_getD, List.getElem?_eq_getElem hk2]; rfl
  rw [hg, badO_iff, h.2]
  by_cases hkm : k < m
  · obtain ⟨c1, c2, c3⟩ := hk k hkm
    have := ck_len f k
    rw [c1, c2, c3]
    exact ⟨⟨by omega, by omega⟩, this, fun e => by cases e⟩
  · obtain rfl : k = m := by omega
    rw [b1, b2, b3]
    exact ⟨⟨by omega, by omega⟩, hr, fun e => by cases e⟩

end Ld
end Go.Proofs.YtapefonhgkjgnaaGreat
