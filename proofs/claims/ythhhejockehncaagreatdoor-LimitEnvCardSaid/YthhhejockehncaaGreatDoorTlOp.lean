/- What comes in, opened. -/
import Derived.Test.YthhhejockehncaaGreatDoorTlTy
set_option maxRecDepth 20000
set_option linter.all false
set_option linter.unusedVariables false
namespace Go.TL
open Go Go.Proofs
noncomputable section
structure ApiCurrency.fit (x : ApiCurrency) : Prop where
  h0 : (fun s : List UInt8 => s.length ≤ maxLen) x.Code_
  h1 : (fun x => (Lit.int .i64 x).wf = true) x.Digits_
theorem open_ApiCurrency (n : Nat) : OpensAt Tryz.prog n 313 ApiCurrency.v ApiCurrency.fit := by
  intro H enc w base spare held cs d h
  obtain ⟨xs, m, rfl, -, hl, hlen, hf⟩ := DataW.trod_struct (fs := #[{ name := "Code", type := 9, offset := 0, embedded := false, tag := "", pkgPath := "", byteOffset := 0 }, { name := "Digits", type := 3, offset := 1, embedded := false, tag := "", pkgPath := "", byteOffset := 16 }]) (by kernel_rfl) h
  obtain ⟨x0, r0, g0⟩ := fldAt hlen hf 0 _ rfl (opens_str (t := 9) (by kernel_rfl) m) (o := 0) (n := 1) rfl (by kernel_rfl)
  obtain ⟨x1, r1, g1⟩ := fldAt hlen hf 1 _ rfl (opens_int (k := .i64) (t := 3) (by kernel_rfl) m) (o := 1) (n := 1) rfl (by kernel_rfl)
  exact ⟨⟨x0, x1⟩, (rel_cons r0 (rel_cons r1 (rel_nil (hl.trans (by kernel_rfl))))), .mk g0 g1⟩
structure ApiCalendar.fit (x : ApiCalendar) : Prop where
  h0 : (fun s : List UInt8 => s.length ≤ maxLen) x.Name_
  h1 : (fun l : List Int => l.length ≤ maxLen ∧ ∀ x ∈ l, (fun x => (Lit.int .i64 x).wf = true) x) x.Weekend_
  h2 : (fun l : List Int => l.length ≤ maxLen ∧ ∀ x ∈ l, (fun x => (Lit.int .i64 x).wf = true) x) x.Holidays_
theorem open_ApiCalendar (n : Nat) : OpensAt Tryz.prog n 64 ApiCalendar.v ApiCalendar.fit := by
  intro H enc w base spare held cs d h
  obtain ⟨xs, m, rfl, -, hl, hlen, hf⟩ := DataW.trod_struct (fs := #[{ name := "Name", type := 9, offset := 0, embedded := false, tag := "", pkgPath := "", byteOffset := 0 }, { name := "Weekend", type := 62, offset := 1, embedded := false, tag := "", pkgPath := "", byteOffset := 16 }, { name := "Holidays", type := 62, offset := 2, embedded := false, tag := "", pkgPath := "", byteOffset := 40 }]) (by kernel_rfl) h
  obtain ⟨x0, r0, g0⟩ := fldAt hlen hf 0 _ rfl (opens_str (t := 9) (by kernel_rfl) m) (o := 0) (n := 1) rfl (by kernel_rfl)
  obtain ⟨x1, r1, g1⟩ := fldAt hlen hf 1 _ rfl (opens_slice (t := 62) (e := 3) (n := m) (f := i64) (fit := (fun x => (Lit.int .i64 x).wf = true)) (by kernel_rfl) (fun k _ => (opens_int (k := .i64) (t := 3) (by kernel_rfl) k)) (fun _ => rfl) (z := 1) (fun _ => rfl) (by kernel_rfl) (by decide)) (o := 1) (n := 1) rfl (by kernel_rfl)
  obtain ⟨x2, r2, g2⟩ := fldAt hlen hf 2 _ rfl (opens_slice (t := 62) (e := 3) (n := m) (f := i64) (fit := (fun x => (Lit.int .i64 x).wf = true)) (by kernel_rfl) (fun k _ => (opens_int (k := .i64) (t := 3) (by kernel_rfl) k)) (fun _ => rfl) (z := 1) (fun _ => rfl) (by kernel_rfl) (by decide)) (o := 2) (n := 1) rfl (by kernel_rfl)
  exact ⟨⟨x0, x1, x2⟩, (rel_cons r0 (rel_cons r1 (rel_cons r2 (rel_nil (hl.trans (by kernel_rfl)))))), .mk g0 g1 g2⟩
structure ApiGl.fit (x : ApiGl) : Prop where
  h0 : (fun x => (Lit.int .i64 x).wf = true) x.Id_
  h1 : (fun x => (Lit.int .i64 x).wf = true) x.Parent_
  h2 : (fun x => (Lit.int .i64 x).wf = true) x.Kind_
  h3 : (fun s : List UInt8 => s.length ≤ maxLen) x.Name_
theorem open_ApiGl (n : Nat) : OpensAt Tryz.prog n 315 ApiGl.v ApiGl.fit := by
  intro H enc w base spare held cs d h
  obtain ⟨xs, m, rfl, -, hl, hlen, hf⟩ := DataW.trod_struct (fs := #[{ name := "Id", type := 3, offset := 0, embedded := false, tag := "", pkgPath := "", byteOffset := 0 }, { name := "Parent", type := 3, offset := 1, embedded := false, tag := "", pkgPath := "", byteOffset := 8 }, { name := "Kind", type := 3, offset := 2, embedded := false, tag := "", pkgPath := "", byteOffset := 16 }, { name := "Name", type := 9, offset := 3, embedded := false, tag := "", pkgPath := "", byteOffset := 24 }]) (by kernel_rfl) h
  obtain ⟨x0, r0, g0⟩ := fldAt hlen hf 0 _ rfl (opens_int (k := .i64) (t := 3) (by kernel_rfl) m) (o := 0) (n := 1) rfl (by kernel_rfl)
  obtain ⟨x1, r1, g1⟩ := fldAt hlen hf 1 _ rfl (opens_int (k := .i64) (t := 3) (by kernel_rfl) m) (o := 1) (n := 1) rfl (by kernel_rfl)
  obtain ⟨x2, r2, g2⟩ := fldAt hlen hf 2 _ rfl (opens_int (k := .i64) (t := 3) (by kernel_rfl) m) (o := 2) (n := 1) rfl (by kernel_rfl)
  obtain ⟨x3, r3, g3⟩ := fldAt hlen hf 3 _ rfl (opens_str (t := 9) (by kernel_rfl) m) (o := 3) (n := 1) rfl (by kernel_rfl)
  exact ⟨⟨x0, x1, x2, x3⟩, (rel_cons r0 (rel_cons r1 (rel_cons r2 (rel_cons r3 (rel_nil (hl.trans (by kernel_rfl))))))), .mk g0 g1 g2 g3⟩
structure ApiPlan.fit (x : ApiPlan) : Prop where
  h0 : (fun x => (Lit.int .i64 x).wf = true) x.Cash_
  h1 : (fun x => (Lit.int .i64 x).wf = true) x.Deposits_
  h2 : (fun x => (Lit.int .i64 x).wf = true) x.InterestPaid_
  h3 : (fun x => (Lit.int .i64 x).wf = true) x.InterestEarned_
  h4 : (fun x => (Lit.int .i64 x).wf = true) x.FeeEarned_
  h5 : (fun x => (Lit.int .i64 x).wf = true) x.Tax_
  h6 : (fun x => (Lit.int .i64 x).wf = true) x.Clearing_
  h7 : (fun x => (Lit.int .i64 x).wf = true) x.Loans_
  h8 : (fun x => (Lit.int .i64 x).wf = true) x.LoanInterest_
  h9 : (fun x => (Lit.int .i64 x).wf = true) x.Penalty_
  h10 : (fun x => (Lit.int .i64 x).wf = true) x.Provision_
  h11 : (fun x => (Lit.int .i64 x).wf = true) x.ProvisionCost_
  h12 : (fun x => (Lit.int .i64 x).wf = true) x.Loss_
  h13 : (fun x => (Lit.int .i64 x).wf = true) x.Recovery_
theorem open_ApiPlan (n : Nat) : OpensAt Tryz.prog n 26 ApiPlan.v ApiPlan.fit := by
  intro H enc w base spare held cs d h
  obtain ⟨xs, m, rfl, -, hl, hlen, hf⟩ := DataW.trod_struct (fs := #[{ name := "Cash", type := 3, offset := 0, embedded := false, tag := "", pkgPath := "", byteOffset := 0 }, { name := "Deposits", type := 3, offset := 1, embedded := false, tag := "", pkgPath := "", byteOffset := 8 }, { name := "InterestPaid", type := 3, offset := 2, embedded := false, tag := "", pkgPath := "", byteOffset := 16 }, { name := "InterestEarned", type := 3, offset := 3, embedded := false, tag := "", pkgPath := "", byteOffset := 24 }, { name := "FeeEarned", type := 3, offset := 4, embedded := false, tag := "", pkgPath := "", byteOffset := 32 }, { name := "Tax", type := 3, offset := 5, embedded := false, tag := "", pkgPath := "", byteOffset := 40 }, { name := "Clearing", type := 3, offset := 6, embedded := false, tag := "", pkgPath := "", byteOffset := 48 }, { name := "Loans", type := 3, offset := 7, embedded := false, tag := "", pkgPath := "", byteOffset := 56 }, { name := "LoanInterest", type := 3, offset := 8, embedded := false, tag := "", pkgPath := "", byteOffset := 64 }, { name := "Penalty", type := 3, offset := 9, embedded := false, tag := "", pkgPath := "", byteOffset := 72 }, { name := "Provision", type := 3, offset := 10, embedded := false, tag := "", pkgPath := "", byteOffset := 80 }, { name := "ProvisionCost", type := 3, offset := 11, embedded := false, tag := "", pkgPath := "", byteOffset := 88 }, { name := "Loss", type := 3, offset := 12, embedded := false, tag := "", pkgPath := "", byteOffset := 96 }, { name := "Recovery", type := 3, offset := 13, embedded := false, tag := "", pkgPath := "", byteOffset := 104 }]) (by kernel_rfl) h
  obtain ⟨x0, r0, g0⟩ := fldAt hlen hf 0 _ rfl (opens_int (k := .i64) (t := 3) (by kernel_rfl) m) (o := 0) (n := 1) rfl (by kernel_rfl)
  obtain ⟨x1, r1, g1⟩ := fldAt hlen hf 1 _ rfl (opens_int (k := .i64) (t := 3) (by kernel_rfl) m) (o := 1) (n := 1) rfl (by kernel_rfl)
  obtain ⟨x2, r2, g2⟩ := fldAt hlen hf 2 _ rfl (opens_int (k := .i64) (t := 3) (by kernel_rfl) m) (o := 2) (n := 1) rfl (by kernel_rfl)
  obtain ⟨x3, r3, g3⟩ := fldAt hlen hf 3 _ rfl (opens_int (k := .i64) (t := 3) (by kernel_rfl) m) (o := 3) (n := 1) rfl (by kernel_rfl)
  obtain ⟨x4, r4, g4⟩ := fldAt hlen hf 4 _ rfl (opens_int (k := .i64) (t := 3) (by kernel_rfl) m) (o := 4) (n := 1) rfl (by kernel_rfl)
  obtain ⟨x5, r5, g5⟩ := fldAt hlen hf 5 _ rfl (opens_int (k := .i64) (t := 3) (by kernel_rfl) m) (o := 5) (n := 1) rfl (by kernel_rfl)
  obtain ⟨x6, r6, g6⟩ := fldAt hlen hf 6 _ rfl (opens_int (k := .i64) (t := 3) (by kernel_rfl) m) (o := 6) (n := 1) rfl (by kernel_rfl)
  obtain ⟨x7, r7, g7⟩ := fldAt hlen hf 7 _ rfl (opens_int (k := .i64) (t := 3) (by kernel_rfl) m) (o := 7) (n := 1) rfl (by kernel_rfl)
  obtain ⟨x8, r8, g8⟩ := fldAt hlen hf 8 _ rfl (opens_int (k := .i64) (t := 3) (by kernel_rfl) m) (o := 8) (n := 1) rfl (by kernel_rfl)
  obtain ⟨x9, r9, g9⟩ := fldAt hlen hf 9 _ rfl (opens_int (k := .i64) (t := 3) (by kernel_rfl) m) (o := 9) (n := 1) rfl (by kernel_rfl)
  obtain ⟨x10, r10, g10⟩ := fldAt hlen hf 10 _ rfl (opens_int (k := .i64) (t := 3) (by kernel_rfl) m) (o := 10) (n := 1) rfl (by kernel_rfl)
  obtain ⟨x11, r11, g11⟩ := fldAt hlen hf 11 _ rfl (opens_int (k := .i64) (t := 3) (by kernel_rfl) m) (o := 11) (n := 1) rfl (by kernel_rfl)
  obtain ⟨x12, r12, g12⟩ := fldAt hlen hf 12 _ rfl (opens_int (k := .i64) (t := 3) (by kernel_rfl) m) (o := 12) (n := 1) rfl (by kernel_rfl)
  obtain ⟨x13, r13, g13⟩ := fldAt hlen hf 13 _ rfl (opens_int (k := .i64) (t := 3) (by kernel_rfl) m) (o := 13) (n := 1) rfl (by kernel_rfl)
  exact ⟨⟨x0, x1, x2, x3, x4, x5, x6, x7, x8, x9, x10, x11, x12, x13⟩, (rel_cons r0 (rel_cons r1 (rel_cons r2 (rel_cons r3 (rel_cons r4 (rel_cons r5 (rel_cons r6 (rel_cons r7 (rel_cons r8 (rel_cons r9 (rel_cons r10 (rel_cons r11 (rel_cons r12 (rel_cons r13 (rel_nil (hl.trans (by kernel_rfl))))))))))))))))), .mk g0 g1 g2 g3 g4 g5 g6 g7 g8 g9 g10 g11 g12 g13⟩
structure ApiTier.fit (x : ApiTier) : Prop where
  h0 : (fun x => (Lit.int .i64 x).wf = true) x.From_
  h1 : (fun x => (Lit.int .i64 x).wf = true) x.Ppm_
theorem open_ApiTier (n : Nat) : OpensAt Tryz.prog n 317 ApiTier.v ApiTier.fit := by
  intro H enc w base spare held cs d h
  obtain ⟨xs, m, rfl, -, hl, hlen, hf⟩ := DataW.trod_struct (fs := #[{ name := "From", type := 3, offset := 0, embedded := false, tag := "", pkgPath := "", byteOffset := 0 }, { name := "Ppm", type := 3, offset := 1, embedded := false, tag := "", pkgPath := "", byteOffset := 8 }]) (by kernel_rfl) h
  obtain ⟨x0, r0, g0⟩ := fldAt hlen hf 0 _ rfl (opens_int (k := .i64) (t := 3) (by kernel_rfl) m) (o := 0) (n := 1) rfl (by kernel_rfl)
  obtain ⟨x1, r1, g1⟩ := fldAt hlen hf 1 _ rfl (opens_int (k := .i64) (t := 3) (by kernel_rfl) m) (o := 1) (n := 1) rfl (by kernel_rfl)
  exact ⟨⟨x0, x1⟩, (rel_cons r0 (rel_cons r1 (rel_nil (hl.trans (by kernel_rfl))))), .mk g0 g1⟩
structure ApiInterest.fit (x : ApiInterest) : Prop where
  h0 : (fun l : List ApiTier => l.length ≤ maxLen ∧ ∀ x ∈ l, ApiTier.fit x) x.Tiers_
  h1 : (fun _ => True) x.Marginal_
  h2 : (fun x => (Lit.int .i64 x).wf = true) x.Basis_
  h3 : (fun x => (Lit.int .i64 x).wf = true) x.Mode_
  h4 : (fun _ => True) x.Keep_
theorem open_ApiInterest (n : Nat) : OpensAt Tryz.prog n 52 ApiInterest.v ApiInterest.fit := by
  intro H enc w base spare held cs d h
  obtain ⟨xs, m, rfl, -, hl, hlen, hf⟩ := DataW.trod_struct (fs := #[{ name := "Tiers", type := 50, offset := 0, embedded := false, tag := "", pkgPath := "", byteOffset := 0 }, { name := "Marginal", type := 4, offset := 1, embedded := false, tag := "", pkgPath := "", byteOffset := 24 }, { name := "Basis", type := 3, offset := 2, embedded := false, tag := "", pkgPath := "", byteOffset := 32 }, { name := "Mode", type := 3, offset := 3, embedded := false, tag := "", pkgPath := "", byteOffset := 40 }, { name := "Keep", type := 4, offset := 4, embedded := false, tag := "", pkgPath := "", byteOffset := 48 }]) (by kernel_rfl) h
  obtain ⟨x0, r0, g0⟩ := fldAt hlen hf 0 _ rfl (opens_slice (t := 50) (e := 317) (n := m) (f := ApiTier.v) (fit := ApiTier.fit) (by kernel_rfl) (fun k _ => (open_ApiTier k)) (fun _ => rfl) (z := 2) (fun _ => rfl) (by kernel_rfl) (by decide)) (o := 0) (n := 1) rfl (by kernel_rfl)
  obtain ⟨x1, r1, g1⟩ := fldAt hlen hf 1 _ rfl (opens_bool (t := 4) (by kernel_rfl) m) (o := 1) (n := 1) rfl (by kernel_rfl)
  obtain ⟨x2, r2, g2⟩ := fldAt hlen hf 2 _ rfl (opens_int (k := .i64) (t := 3) (by kernel_rfl) m) (o := 2) (n := 1) rfl (by kernel_rfl)
  obtain ⟨x3, r3, g3⟩ := fldAt hlen hf 3 _ rfl (opens_int (k := .i64) (t := 3) (by kernel_rfl) m) (o := 3) (n := 1) rfl (by kernel_rfl)
  obtain ⟨x4, r4, g4⟩ := fldAt hlen hf 4 _ rfl (opens_bool (t := 4) (by kernel_rfl) m) (o := 4) (n := 1) rfl (by kernel_rfl)
  exact ⟨⟨x0, x1, x2, x3, x4⟩, (rel_cons r0 (rel_cons r1 (rel_cons r2 (rel_cons r3 (rel_cons r4 (rel_nil (hl.trans (by kernel_rfl)))))))), .mk g0 g1 g2 g3 g4⟩
inductive ApiExpr.fit : ApiExpr → Prop where
  | mk {x : ApiExpr} (h0 : (fun x => (Lit.int .i64 x).wf = true) x.Op_) (h1 : (fun x => (Lit.int .i64 x).wf = true) x.N_) (h2 : (fun s : List UInt8 => s.length ≤ maxLen) x.S_) (h3 : x.Args_.length ≤ maxLen) (hr3 : ∀ y ∈ x.Args_, ApiExpr.fit y) : ApiExpr.fit x
theorem open_ApiExpr (n : Nat) : OpensAt Tryz.prog n 99 ApiExpr.v ApiExpr.fit := by
  induction n using Nat.strongRecOn with
  | _ n ih =>
    intro H enc w base spare held cs d h
    obtain ⟨xs, m, rfl, -, hl, hlen, hf⟩ := DataW.trod_struct (fs := #[{ name := "Op", type := 3, offset := 0, embedded := false, tag := "", pkgPath := "", byteOffset := 0 }, { name := "N", type := 3, offset := 1, embedded := false, tag := "", pkgPath := "", byteOffset := 8 }, { name := "S", type := 9, offset := 2, embedded := false, tag := "", pkgPath := "", byteOffset := 16 }, { name := "Args", type := 97, offset := 3, embedded := false, tag := "", pkgPath := "", byteOffset := 32 }]) (by kernel_rfl) h
    obtain ⟨x0, r0, g0⟩ := fldAt hlen hf 0 _ rfl (opens_int (k := .i64) (t := 3) (by kernel_rfl) m) (o := 0) (n := 1) rfl (by kernel_rfl)
    obtain ⟨x1, r1, g1⟩ := fldAt hlen hf 1 _ rfl (opens_int (k := .i64) (t := 3) (by kernel_rfl) m) (o := 1) (n := 1) rfl (by kernel_rfl)
    obtain ⟨x2, r2, g2⟩ := fldAt hlen hf 2 _ rfl (opens_str (t := 9) (by kernel_rfl) m) (o := 2) (n := 1) rfl (by kernel_rfl)
    obtain ⟨x3, r3, g3⟩ := fldAt hlen hf 3 _ rfl (opens_slice (t := 97) (e := 99) (n := m) (f := ApiExpr.v) (fit := ApiExpr.fit) (by kernel_rfl) (fun k hk => ih k (Nat.lt_of_lt_of_le hk (Nat.le_succ _))) (fun _ => rfl) (z := 4) (fun _ => rfl) (by kernel_rfl) (by decide)) (o := 3) (n := 1) rfl (by kernel_rfl)
    replace r3 : RelL w M0 [] [.sl (⟨x0, x1, x2, x3⟩ : ApiExpr).va] ((cs.drop 3).take 1) := by rw [ApiExpr.va_map]; exact r3
    exact ⟨⟨x0, x1, x2, x3⟩, (rel_cons r0 (rel_cons r1 (rel_cons r2 (rel_cons r3 (rel_nil (hl.trans (by kernel_rfl))))))), .mk g0 g1 g2 g3.1 g3.2⟩
structure ApiFee.fit (x : ApiFee) : Prop where
  h0 : (fun s : List UInt8 => s.length ≤ maxLen) x.Name_
  h1 : (fun x => (Lit.int .i64 x).wf = true) x.Event_
  h2 : ApiExpr.fit x.When_
  h3 : ApiExpr.fit x.Amount_
theorem open_ApiFee (n : Nat) : OpensAt Tryz.prog n 101 ApiFee.v ApiFee.fit := by
  intro H enc w base spare held cs d h
  obtain ⟨xs, m, rfl, -, hl, hlen, hf⟩ := DataW.trod_struct (fs := #[{ name := "Name", type := 9, offset := 0, embedded := false, tag := "", pkgPath := "", byteOffset := 0 }, { name := "Event", type := 3, offset := 1, embedded := false, tag := "", pkgPath := "", byteOffset := 16 }, { name := "When", type := 99, offset := 2, embedded := false, tag := "", pkgPath := "", byteOffset := 24 }, { name := "Amount", type := 99, offset := 6, embedded := false, tag := "", pkgPath := "", byteOffset := 80 }]) (by kernel_rfl) h
  obtain ⟨x0, r0, g0⟩ := fldAt hlen hf 0 _ rfl (opens_str (t := 9) (by kernel_rfl) m) (o := 0) (n := 1) rfl (by kernel_rfl)
  obtain ⟨x1, r1, g1⟩ := fldAt hlen hf 1 _ rfl (opens_int (k := .i64) (t := 3) (by kernel_rfl) m) (o := 1) (n := 1) rfl (by kernel_rfl)
  obtain ⟨x2, r2, g2⟩ := fldAt hlen hf 2 _ rfl (open_ApiExpr m) (o := 2) (n := 4) rfl (by kernel_rfl)
  obtain ⟨x3, r3, g3⟩ := fldAt hlen hf 3 _ rfl (open_ApiExpr m) (o := 6) (n := 4) rfl (by kernel_rfl)
  exact ⟨⟨x0, x1, x2, x3⟩, (rel_cons r0 (rel_cons r1 (rel_cons r2 (rel_cons r3 (rel_nil (hl.trans (by kernel_rfl))))))), .mk g0 g1 g2 g3⟩
structure ApiRule.fit (x : ApiRule) : Prop where
  h0 : (fun s : List UInt8 => s.length ≤ maxLen) x.Name_
  h1 : (fun x => (Lit.int .i64 x).wf = true) x.Window_
  h2 : ApiExpr.fit x.Amount_
theorem open_ApiRule (n : Nat) : OpensAt Tryz.prog n 104 ApiRule.v ApiRule.fit := by
  intro H enc w base spare held cs d h
  obtain ⟨xs, m, rfl, -, hl, hlen, hf⟩ := DataW.trod_struct (fs := #[{ name := "Name", type := 9, offset := 0, embedded := false, tag := "", pkgPath := "", byteOffset := 0 }, { name := "Window", type := 3, offset := 1, embedded := false, tag := "", pkgPath := "", byteOffset := 16 }, { name := "Amount", type := 99, offset := 2, embedded := false, tag := "", pkgPath := "", byteOffset := 24 }]) (by kernel_rfl) h
  obtain ⟨x0, r0, g0⟩ := fldAt hlen hf 0 _ rfl (opens_str (t := 9) (by kernel_rfl) m) (o := 0) (n := 1) rfl (by kernel_rfl)
  obtain ⟨x1, r1, g1⟩ := fldAt hlen hf 1 _ rfl (opens_int (k := .i64) (t := 3) (by kernel_rfl) m) (o := 1) (n := 1) rfl (by kernel_rfl)
  obtain ⟨x2, r2, g2⟩ := fldAt hlen hf 2 _ rfl (open_ApiExpr m) (o := 2) (n := 4) rfl (by kernel_rfl)
  exact ⟨⟨x0, x1, x2⟩, (rel_cons r0 (rel_cons r1 (rel_cons r2 (rel_nil (hl.trans (by kernel_rfl)))))), .mk g0 g1 g2⟩
structure ApiProduct.fit (x : ApiProduct) : Prop where
  h0 : (fun s : List UInt8 => s.length ≤ maxLen) x.Name_
  h1 : (fun s : List UInt8 => s.length ≤ maxLen) x.Currency_
  h2 : (fun s : List UInt8 => s.length ≤ maxLen) x.Calendar_
  h3 : (fun x => (Lit.int .i64 x).wf = true) x.From_
  h4 : (fun x => (Lit.int .i64 x).wf = true) x.Every_
  h5 : (fun x => (Lit.int .i64 x).wf = true) x.Overdraft_
  h6 : (fun x => (Lit.int .i64 x).wf = true) x.TaxPpm_
  h7 : ApiInterest.fit x.Credit_
  h8 : ApiInterest.fit x.Debit_
  h9 : (fun l : List ApiFee => l.length ≤ maxLen ∧ ∀ x ∈ l, ApiFee.fit x) x.Fees_
  h10 : (fun l : List ApiRule => l.length ≤ maxLen ∧ ∀ x ∈ l, ApiRule.fit x) x.Rules_
theorem open_ApiProduct (n : Nat) : OpensAt Tryz.prog n 56 ApiProduct.v ApiProduct.fit := by
  intro H enc w base spare held cs d h
  obtain ⟨xs, m, rfl, -, hl, hlen, hf⟩ := DataW.trod_struct (fs := #[{ name := "Name", type := 9, offset := 0, embedded := false, tag := "", pkgPath := "", byteOffset := 0 }, { name := "Currency", type := 9, offset := 1, embedded := false, tag := "", pkgPath := "", byteOffset := 16 }, { name := "Calendar", type := 9, offset := 2, embedded := false, tag := "", pkgPath := "", byteOffset := 32 }, { name := "From", type := 3, offset := 3, embedded := false, tag := "", pkgPath := "", byteOffset := 48 }, { name := "Every", type := 3, offset := 4, embedded := false, tag := "", pkgPath := "", byteOffset := 56 }, { name := "Overdraft", type := 3, offset := 5, embedded := false, tag := "", pkgPath := "", byteOffset := 64 }, { name := "TaxPpm", type := 3, offset := 6, embedded := false, tag := "", pkgPath := "", byteOffset := 72 }, { name := "Credit", type := 52, offset := 7, embedded := false, tag := "", pkgPath := "", byteOffset := 80 }, { name := "Debit", type := 52, offset := 12, embedded := false, tag := "", pkgPath := "", byteOffset := 136 }, { name := "Fees", type := 53, offset := 17, embedded := false, tag := "", pkgPath := "", byteOffset := 192 }, { name := "Rules", type := 54, offset := 18, embedded := false, tag := "", pkgPath := "", byteOffset := 216 }]) (by kernel_rfl) h
  obtain ⟨x0, r0, g0⟩ := fldAt hlen hf 0 _ rfl (opens_str (t := 9) (by kernel_rfl) m) (o := 0) (n := 1) rfl (by kernel_rfl)
  obtain ⟨x1, r1, g1⟩ := fldAt hlen hf 1 _ rfl (opens_str (t := 9) (by kernel_rfl) m) (o := 1) (n := 1) rfl (by kernel_rfl)
  obtain ⟨x2, r2, g2⟩ := fldAt hlen hf 2 _ rfl (opens_str (t := 9) (by kernel_rfl) m) (o := 2) (n := 1) rfl (by kernel_rfl)
  obtain ⟨x3, r3, g3⟩ := fldAt hlen hf 3 _ rfl (opens_int (k := .i64) (t := 3) (by kernel_rfl) m) (o := 3) (n := 1) rfl (by kernel_rfl)
  obtain ⟨x4, r4, g4⟩ := fldAt hlen hf 4 _ rfl (opens_int (k := .i64) (t := 3) (by kernel_rfl) m) (o := 4) (n := 1) rfl (by kernel_rfl)
  obtain ⟨x5, r5, g5⟩ := fldAt hlen hf 5 _ rfl (opens_int (k := .i64) (t := 3) (by kernel_rfl) m) (o := 5) (n := 1) rfl (by kernel_rfl)
  obtain ⟨x6, r6, g6⟩ := fldAt hlen hf 6 _ rfl (opens_int (k := .i64) (t := 3) (by kernel_rfl) m) (o := 6) (n := 1) rfl (by kernel_rfl)
  obtain ⟨x7, r7, g7⟩ := fldAt hlen hf 7 _ rfl (open_ApiInterest m) (o := 7) (n := 5) rfl (by kernel_rfl)
  obtain ⟨x8, r8, g8⟩ := fldAt hlen hf 8 _ rfl (open_ApiInterest m) (o := 12) (n := 5) rfl (by kernel_rfl)
  obtain ⟨x9, r9, g9⟩ := fldAt hlen hf 9 _ rfl (opens_slice (t := 53) (e := 101) (n := m) (f := ApiFee.v) (fit := ApiFee.fit) (by kernel_rfl) (fun k _ => (open_ApiFee k)) (fun _ => rfl) (z := 10) (fun _ => rfl) (by kernel_rfl) (by decide)) (o := 17) (n := 1) rfl (by kernel_rfl)
  obtain ⟨x10, r10, g10⟩ := fldAt hlen hf 10 _ rfl (opens_slice (t := 54) (e := 104) (n := m) (f := ApiRule.v) (fit := ApiRule.fit) (by kernel_rfl) (fun k _ => (open_ApiRule k)) (fun _ => rfl) (z := 6) (fun _ => rfl) (by kernel_rfl) (by decide)) (o := 18) (n := 1) rfl (by kernel_rfl)
  exact ⟨⟨x0, x1, x2, x3, x4, x5, x6, x7, x8, x9, x10⟩, (rel_cons r0 (rel_cons r1 (rel_cons r2 (rel_cons r3 (rel_cons r4 (rel_cons r5 (rel_cons r6 (rel_cons r7 (rel_cons r8 (rel_cons r9 (rel_cons r10 (rel_nil (hl.trans (by kernel_rfl)))))))))))))), .mk g0 g1 g2 g3 g4 g5 g6 g7 g8 g9 g10⟩
structure ApiAccount.fit (x : ApiAccount) : Prop where
  h0 : (fun x => (Lit.int .i64 x).wf = true) x.Id_
  h1 : (fun x => (Lit.int .i64 x).wf = true) x.Opened_
  h2 : (fun x => (Lit.int .i64 x).wf = true) x.Closed_
  h3 : (fun x => (Lit.int .i64 x).wf = true) x.Extra_
  h4 : (fun s : List UInt8 => s.length ≤ maxLen) x.Owner_
  h5 : (fun s : List UInt8 => s.length ≤ maxLen) x.Product_
  h6 : (fun s : List UInt8 => s.length ≤ maxLen) x.Number_
theorem open_ApiAccount (n : Nat) : OpensAt Tryz.prog n 73 ApiAccount.v ApiAccount.fit := by
  intro H enc w base spare held cs d h
  obtain ⟨xs, m, rfl, -, hl, hlen, hf⟩ := DataW.trod_struct (fs := #[{ name := "Id", type := 3, offset := 0, embedded := false, tag := "", pkgPath := "", byteOffset := 0 }, { name := "Opened", type := 3, offset := 1, embedded := false, tag := "", pkgPath := "", byteOffset := 8 }, { name := "Closed", type := 3, offset := 2, embedded := false, tag := "", pkgPath := "", byteOffset := 16 }, { name := "Extra", type := 3, offset := 3, embedded := false, tag := "", pkgPath := "", byteOffset := 24 }, { name := "Owner", type := 9, offset := 4, embedded := false, tag := "", pkgPath := "", byteOffset := 32 }, { name := "Product", type := 9, offset := 5, embedded := false, tag := "", pkgPath := "", byteOffset := 48 }, { name := "Number", type := 9, offset := 6, embedded := false, tag := "", pkgPath := "", byteOffset := 64 }]) (by kernel_rfl) h
  obtain ⟨x0, r0, g0⟩ := fldAt hlen hf 0 _ rfl (opens_int (k := .i64) (t := 3) (by kernel_rfl) m) (o := 0) (n := 1) rfl (by kernel_rfl)
  obtain ⟨x1, r1, g1⟩ := fldAt hlen hf 1 _ rfl (opens_int (k := .i64) (t := 3) (by kernel_rfl) m) (o := 1) (n := 1) rfl (by kernel_rfl)
  obtain ⟨x2, r2, g2⟩ := fldAt hlen hf 2 _ rfl (opens_int (k := .i64) (t := 3) (by kernel_rfl) m) (o := 2) (n := 1) rfl (by kernel_rfl)
  obtain ⟨x3, r3, g3⟩ := fldAt hlen hf 3 _ rfl (opens_int (k := .i64) (t := 3) (by kernel_rfl) m) (o := 3) (n := 1) rfl (by kernel_rfl)
  obtain ⟨x4, r4, g4⟩ := fldAt hlen hf 4 _ rfl (opens_str (t := 9) (by kernel_rfl) m) (o := 4) (n := 1) rfl (by kernel_rfl)
  obtain ⟨x5, r5, g5⟩ := fldAt hlen hf 5 _ rfl (opens_str (t := 9) (by kernel_rfl) m) (o := 5) (n := 1) rfl (by kernel_rfl)
  obtain ⟨x6, r6, g6⟩ := fldAt hlen hf 6 _ rfl (opens_str (t := 9) (by kernel_rfl) m) (o := 6) (n := 1) rfl (by kernel_rfl)
  exact ⟨⟨x0, x1, x2, x3, x4, x5, x6⟩, (rel_cons r0 (rel_cons r1 (rel_cons r2 (rel_cons r3 (rel_cons r4 (rel_cons r5 (rel_cons r6 (rel_nil (hl.trans (by kernel_rfl)))))))))), .mk g0 g1 g2 g3 g4 g5 g6⟩
structure ApiLeg.fit (x : ApiLeg) : Prop where
  h0 : (fun x => (Lit.int .i64 x).wf = true) x.Account_
  h1 : (fun x => (Lit.int .i64 x).wf = true) x.Amount_
  h2 : (fun s : List UInt8 => s.length ≤ maxLen) x.Currency_
theorem open_ApiLeg (n : Nat) : OpensAt Tryz.prog n 93 ApiLeg.v ApiLeg.fit := by
  intro H enc w base spare held cs d h
  obtain ⟨xs, m, rfl, -, hl, hlen, hf⟩ := DataW.trod_struct (fs := #[{ name := "Account", type := 3, offset := 0, embedded := false, tag := "", pkgPath := "", byteOffset := 0 }, { name := "Amount", type := 3, offset := 1, embedded := false, tag := "", pkgPath := "", byteOffset := 8 }, { name := "Currency", type := 9, offset := 2, embedded := false, tag := "", pkgPath := "", byteOffset := 16 }]) (by kernel_rfl) h
  obtain ⟨x0, r0, g0⟩ := fldAt hlen hf 0 _ rfl (opens_int (k := .i64) (t := 3) (by kernel_rfl) m) (o := 0) (n := 1) rfl (by kernel_rfl)
  obtain ⟨x1, r1, g1⟩ := fldAt hlen hf 1 _ rfl (opens_int (k := .i64) (t := 3) (by kernel_rfl) m) (o := 1) (n := 1) rfl (by kernel_rfl)
  obtain ⟨x2, r2, g2⟩ := fldAt hlen hf 2 _ rfl (opens_str (t := 9) (by kernel_rfl) m) (o := 2) (n := 1) rfl (by kernel_rfl)
  exact ⟨⟨x0, x1, x2⟩, (rel_cons r0 (rel_cons r1 (rel_cons r2 (rel_nil (hl.trans (by kernel_rfl)))))), .mk g0 g1 g2⟩
structure ApiEntry.fit (x : ApiEntry) : Prop where
  h0 : (fun x => (Lit.int .i64 x).wf = true) x.Id_
  h1 : (fun x => (Lit.int .i64 x).wf = true) x.Booked_
  h2 : (fun x => (Lit.int .i64 x).wf = true) x.Value_
  h3 : (fun x => (Lit.int .i64 x).wf = true) x.Kind_
  h4 : (fun x => (Lit.int .i64 x).wf = true) x.Auth_
  h5 : (fun x => (Lit.int .i64 x).wf = true) x.Period_
  h6 : (fun s : List UInt8 => s.length ≤ maxLen) x.Key_
  h7 : (fun s : List UInt8 => s.length ≤ maxLen) x.Text_
  h8 : (fun l : List ApiLeg => l.length ≤ maxLen ∧ ∀ x ∈ l, ApiLeg.fit x) x.Legs_
  h9 : (fun x => (Lit.int .u64 x).wf = true) x.Chain_
theorem open_ApiEntry (n : Nat) : OpensAt Tryz.prog n 61 ApiEntry.v ApiEntry.fit := by
  intro H enc w base spare held cs d h
  obtain ⟨xs, m, rfl, -, hl, hlen, hf⟩ := DataW.trod_struct (fs := #[{ name := "Id", type := 3, offset := 0, embedded := false, tag := "", pkgPath := "", byteOffset := 0 }, { name := "Booked", type := 3, offset := 1, embedded := false, tag := "", pkgPath := "", byteOffset := 8 }, { name := "Value", type := 3, offset := 2, embedded := false, tag := "", pkgPath := "", byteOffset := 16 }, { name := "Kind", type := 3, offset := 3, embedded := false, tag := "", pkgPath := "", byteOffset := 24 }, { name := "Auth", type := 3, offset := 4, embedded := false, tag := "", pkgPath := "", byteOffset := 32 }, { name := "Period", type := 3, offset := 5, embedded := false, tag := "", pkgPath := "", byteOffset := 40 }, { name := "Key", type := 9, offset := 6, embedded := false, tag := "", pkgPath := "", byteOffset := 48 }, { name := "Text", type := 9, offset := 7, embedded := false, tag := "", pkgPath := "", byteOffset := 64 }, { name := "Legs", type := 58, offset := 8, embedded := false, tag := "", pkgPath := "", byteOffset := 80 }, { name := "Chain", type := 59, offset := 9, embedded := false, tag := "", pkgPath := "", byteOffset := 104 }]) (by kernel_rfl) h
  obtain ⟨x0, r0, g0⟩ := fldAt hlen hf 0 _ rfl (opens_int (k := .i64) (t := 3) (by kernel_rfl) m) (o := 0) (n := 1) rfl (by kernel_rfl)
  obtain ⟨x1, r1, g1⟩ := fldAt hlen hf 1 _ rfl (opens_int (k := .i64) (t := 3) (by kernel_rfl) m) (o := 1) (n := 1) rfl (by kernel_rfl)
  obtain ⟨x2, r2, g2⟩ := fldAt hlen hf 2 _ rfl (opens_int (k := .i64) (t := 3) (by kernel_rfl) m) (o := 2) (n := 1) rfl (by kernel_rfl)
  obtain ⟨x3, r3, g3⟩ := fldAt hlen hf 3 _ rfl (opens_int (k := .i64) (t := 3) (by kernel_rfl) m) (o := 3) (n := 1) rfl (by kernel_rfl)
  obtain ⟨x4, r4, g4⟩ := fldAt hlen hf 4 _ rfl (opens_int (k := .i64) (t := 3) (by kernel_rfl) m) (o := 4) (n := 1) rfl (by kernel_rfl)
  obtain ⟨x5, r5, g5⟩ := fldAt hlen hf 5 _ rfl (opens_int (k := .i64) (t := 3) (by kernel_rfl) m) (o := 5) (n := 1) rfl (by kernel_rfl)
  obtain ⟨x6, r6, g6⟩ := fldAt hlen hf 6 _ rfl (opens_str (t := 9) (by kernel_rfl) m) (o := 6) (n := 1) rfl (by kernel_rfl)
  obtain ⟨x7, r7, g7⟩ := fldAt hlen hf 7 _ rfl (opens_str (t := 9) (by kernel_rfl) m) (o := 7) (n := 1) rfl (by kernel_rfl)
  obtain ⟨x8, r8, g8⟩ := fldAt hlen hf 8 _ rfl (opens_slice (t := 58) (e := 93) (n := m) (f := ApiLeg.v) (fit := ApiLeg.fit) (by kernel_rfl) (fun k _ => (open_ApiLeg k)) (fun _ => rfl) (z := 3) (fun _ => rfl) (by kernel_rfl) (by decide)) (o := 8) (n := 1) rfl (by kernel_rfl)
  obtain ⟨x9, r9, g9⟩ := fldAt hlen hf 9 _ rfl (opens_int (k := .u64) (t := 59) (by kernel_rfl) m) (o := 9) (n := 1) rfl (by kernel_rfl)
  exact ⟨⟨x0, x1, x2, x3, x4, x5, x6, x7, x8, x9⟩, (rel_cons r0 (rel_cons r1 (rel_cons r2 (rel_cons r3 (rel_cons r4 (rel_cons r5 (rel_cons r6 (rel_cons r7 (rel_cons r8 (rel_cons r9 (rel_nil (hl.trans (by kernel_rfl))))))))))))), .mk g0 g1 g2 g3 g4 g5 g6 g7 g8 g9⟩
structure ApiHold.fit (x : ApiHold) : Prop where
  h0 : (fun x => (Lit.int .i64 x).wf = true) x.Id_
  h1 : (fun x => (Lit.int .i64 x).wf = true) x.Account_
  h2 : (fun x => (Lit.int .i64 x).wf = true) x.Amount_
  h3 : (fun x => (Lit.int .i64 x).wf = true) x.From_
  h4 : (fun x => (Lit.int .i64 x).wf = true) x.To_
  h5 : (fun s : List UInt8 => s.length ≤ maxLen) x.Key_
theorem open_ApiHold (n : Nat) : OpensAt Tryz.prog n 96 ApiHold.v ApiHold.fit := by
  intro H enc w base spare held cs d h
  obtain ⟨xs, m, rfl, -, hl, hlen, hf⟩ := DataW.trod_struct (fs := #[{ name := "Id", type := 3, offset := 0, embedded := false, tag := "", pkgPath := "", byteOffset := 0 }, { name := "Account", type := 3, offset := 1, embedded := false, tag := "", pkgPath := "", byteOffset := 8 }, { name := "Amount", type := 3, offset := 2, embedded := false, tag := "", pkgPath := "", byteOffset := 16 }, { name := "From", type := 3, offset := 3, embedded := false, tag := "", pkgPath := "", byteOffset := 24 }, { name := "To", type := 3, offset := 4, embedded := false, tag := "", pkgPath := "", byteOffset := 32 }, { name := "Key", type := 9, offset := 5, embedded := false, tag := "", pkgPath := "", byteOffset := 40 }]) (by kernel_rfl) h
  obtain ⟨x0, r0, g0⟩ := fldAt hlen hf 0 _ rfl (opens_int (k := .i64) (t := 3) (by kernel_rfl) m) (o := 0) (n := 1) rfl (by kernel_rfl)
  obtain ⟨x1, r1, g1⟩ := fldAt hlen hf 1 _ rfl (opens_int (k := .i64) (t := 3) (by kernel_rfl) m) (o := 1) (n := 1) rfl (by kernel_rfl)
  obtain ⟨x2, r2, g2⟩ := fldAt hlen hf 2 _ rfl (opens_int (k := .i64) (t := 3) (by kernel_rfl) m) (o := 2) (n := 1) rfl (by kernel_rfl)
  obtain ⟨x3, r3, g3⟩ := fldAt hlen hf 3 _ rfl (opens_int (k := .i64) (t := 3) (by kernel_rfl) m) (o := 3) (n := 1) rfl (by kernel_rfl)
  obtain ⟨x4, r4, g4⟩ := fldAt hlen hf 4 _ rfl (opens_int (k := .i64) (t := 3) (by kernel_rfl) m) (o := 4) (n := 1) rfl (by kernel_rfl)
  obtain ⟨x5, r5, g5⟩ := fldAt hlen hf 5 _ rfl (opens_str (t := 9) (by kernel_rfl) m) (o := 5) (n := 1) rfl (by kernel_rfl)
  exact ⟨⟨x0, x1, x2, x3, x4, x5⟩, (rel_cons r0 (rel_cons r1 (rel_cons r2 (rel_cons r3 (rel_cons r4 (rel_cons r5 (rel_nil (hl.trans (by kernel_rfl))))))))), .mk g0 g1 g2 g3 g4 g5⟩
structure ApiBlock.fit (x : ApiBlock) : Prop where
  h0 : (fun x => (Lit.int .i64 x).wf = true) x.Id_
  h1 : (fun x => (Lit.int .i64 x).wf = true) x.Account_
  h2 : (fun x => (Lit.int .i64 x).wf = true) x.Kind_
  h3 : (fun x => (Lit.int .i64 x).wf = true) x.Amount_
  h4 : (fun x => (Lit.int .i64 x).wf = true) x.From_
  h5 : (fun x => (Lit.int .i64 x).wf = true) x.To_
  h6 : (fun s : List UInt8 => s.length ≤ maxLen) x.Source_
theorem open_ApiBlock (n : Nat) : OpensAt Tryz.prog n 69 ApiBlock.v ApiBlock.fit := by
  intro H enc w base spare held cs d h
  obtain ⟨xs, m, rfl, -, hl, hlen, hf⟩ := DataW.trod_struct (fs := #[{ name := "Id", type := 3, offset := 0, embedded := false, tag := "", pkgPath := "", byteOffset := 0 }, { name := "Account", type := 3, offset := 1, embedded := false, tag := "", pkgPath := "", byteOffset := 8 }, { name := "Kind", type := 3, offset := 2, embedded := false, tag := "", pkgPath := "", byteOffset := 16 }, { name := "Amount", type := 3, offset := 3, embedded := false, tag := "", pkgPath := "", byteOffset := 24 }, { name := "From", type := 3, offset := 4, embedded := false, tag := "", pkgPath := "", byteOffset := 32 }, { name := "To", type := 3, offset := 5, embedded := false, tag := "", pkgPath := "", byteOffset := 40 }, { name := "Source", type := 9, offset := 6, embedded := false, tag := "", pkgPath := "", byteOffset := 48 }]) (by kernel_rfl) h
  obtain ⟨x0, r0, g0⟩ := fldAt hlen hf 0 _ rfl (opens_int (k := .i64) (t := 3) (by kernel_rfl) m) (o := 0) (n := 1) rfl (by kernel_rfl)
  obtain ⟨x1, r1, g1⟩ := fldAt hlen hf 1 _ rfl (opens_int (k := .i64) (t := 3) (by kernel_rfl) m) (o := 1) (n := 1) rfl (by kernel_rfl)
  obtain ⟨x2, r2, g2⟩ := fldAt hlen hf 2 _ rfl (opens_int (k := .i64) (t := 3) (by kernel_rfl) m) (o := 2) (n := 1) rfl (by kernel_rfl)
  obtain ⟨x3, r3, g3⟩ := fldAt hlen hf 3 _ rfl (opens_int (k := .i64) (t := 3) (by kernel_rfl) m) (o := 3) (n := 1) rfl (by kernel_rfl)
  obtain ⟨x4, r4, g4⟩ := fldAt hlen hf 4 _ rfl (opens_int (k := .i64) (t := 3) (by kernel_rfl) m) (o := 4) (n := 1) rfl (by kernel_rfl)
  obtain ⟨x5, r5, g5⟩ := fldAt hlen hf 5 _ rfl (opens_int (k := .i64) (t := 3) (by kernel_rfl) m) (o := 5) (n := 1) rfl (by kernel_rfl)
  obtain ⟨x6, r6, g6⟩ := fldAt hlen hf 6 _ rfl (opens_str (t := 9) (by kernel_rfl) m) (o := 6) (n := 1) rfl (by kernel_rfl)
  exact ⟨⟨x0, x1, x2, x3, x4, x5, x6⟩, (rel_cons r0 (rel_cons r1 (rel_cons r2 (rel_cons r3 (rel_cons r4 (rel_cons r5 (rel_cons r6 (rel_nil (hl.trans (by kernel_rfl)))))))))), .mk g0 g1 g2 g3 g4 g5 g6⟩
structure ApiBooks.fit (x : ApiBooks) : Prop where
  h0 : (fun l : List ApiCurrency => l.length ≤ maxLen ∧ ∀ x ∈ l, ApiCurrency.fit x) x.Currencies_
  h1 : (fun l : List ApiCalendar => l.length ≤ maxLen ∧ ∀ x ∈ l, ApiCalendar.fit x) x.Calendars_
  h2 : (fun l : List ApiGl => l.length ≤ maxLen ∧ ∀ x ∈ l, ApiGl.fit x) x.Chart_
  h3 : ApiPlan.fit x.Plan_
  h4 : (fun l : List ApiProduct => l.length ≤ maxLen ∧ ∀ x ∈ l, ApiProduct.fit x) x.Products_
  h5 : (fun l : List ApiAccount => l.length ≤ maxLen ∧ ∀ x ∈ l, ApiAccount.fit x) x.Accounts_
  h6 : (fun l : List ApiEntry => l.length ≤ maxLen ∧ ∀ x ∈ l, ApiEntry.fit x) x.Journal_
  h7 : (fun l : List ApiHold => l.length ≤ maxLen ∧ ∀ x ∈ l, ApiHold.fit x) x.Holds_
  h8 : (fun l : List ApiBlock => l.length ≤ maxLen ∧ ∀ x ∈ l, ApiBlock.fit x) x.Blocks_
theorem open_ApiBooks (n : Nat) : OpensAt Tryz.prog n 33 ApiBooks.v ApiBooks.fit := by
  intro H enc w base spare held cs d h
  obtain ⟨xs, m, rfl, -, hl, hlen, hf⟩ := DataW.trod_struct (fs := #[{ name := "Currencies", type := 22, offset := 0, embedded := false, tag := "", pkgPath := "", byteOffset := 0 }, { name := "Calendars", type := 23, offset := 1, embedded := false, tag := "", pkgPath := "", byteOffset := 24 }, { name := "Chart", type := 24, offset := 2, embedded := false, tag := "", pkgPath := "", byteOffset := 48 }, { name := "Plan", type := 26, offset := 3, embedded := false, tag := "", pkgPath := "", byteOffset := 72 }, { name := "Products", type := 27, offset := 17, embedded := false, tag := "", pkgPath := "", byteOffset := 184 }, { name := "Accounts", type := 28, offset := 18, embedded := false, tag := "", pkgPath := "", byteOffset := 208 }, { name := "Journal", type := 29, offset := 19, embedded := false, tag := "", pkgPath := "", byteOffset := 232 }, { name := "Holds", type := 30, offset := 20, embedded := false, tag := "", pkgPath := "", byteOffset := 256 }, { name := "Blocks", type := 31, offset := 21, embedded := false, tag := "", pkgPath := "", byteOffset := 280 }]) (by kernel_rfl) h
  obtain ⟨x0, r0, g0⟩ := fldAt hlen hf 0 _ rfl (opens_slice (t := 22) (e := 313) (n := m) (f := ApiCurrency.v) (fit := ApiCurrency.fit) (by kernel_rfl) (fun k _ => (open_ApiCurrency k)) (fun _ => rfl) (z := 2) (fun _ => rfl) (by kernel_rfl) (by decide)) (o := 0) (n := 1) rfl (by kernel_rfl)
  obtain ⟨x1, r1, g1⟩ := fldAt hlen hf 1 _ rfl (opens_slice (t := 23) (e := 64) (n := m) (f := ApiCalendar.v) (fit := ApiCalendar.fit) (by kernel_rfl) (fun k _ => (open_ApiCalendar k)) (fun _ => rfl) (z := 3) (fun _ => rfl) (by kernel_rfl) (by decide)) (o := 1) (n := 1) rfl (by kernel_rfl)
  obtain ⟨x2, r2, g2⟩ := fldAt hlen hf 2 _ rfl (opens_slice (t := 24) (e := 315) (n := m) (f := ApiGl.v) (fit := ApiGl.fit) (by kernel_rfl) (fun k _ => (open_ApiGl k)) (fun _ => rfl) (z := 4) (fun _ => rfl) (by kernel_rfl) (by decide)) (o := 2) (n := 1) rfl (by kernel_rfl)
  obtain ⟨x3, r3, g3⟩ := fldAt hlen hf 3 _ rfl (open_ApiPlan m) (o := 3) (n := 14) rfl (by kernel_rfl)
  obtain ⟨x4, r4, g4⟩ := fldAt hlen hf 4 _ rfl (opens_slice (t := 27) (e := 56) (n := m) (f := ApiProduct.v) (fit := ApiProduct.fit) (by kernel_rfl) (fun k _ => (open_ApiProduct k)) (fun _ => rfl) (z := 19) (fun _ => rfl) (by kernel_rfl) (by decide)) (o := 17) (n := 1) rfl (by kernel_rfl)
  obtain ⟨x5, r5, g5⟩ := fldAt hlen hf 5 _ rfl (opens_slice (t := 28) (e := 73) (n := m) (f := ApiAccount.v) (fit := ApiAccount.fit) (by kernel_rfl) (fun k _ => (open_ApiAccount k)) (fun _ => rfl) (z := 7) (fun _ => rfl) (by kernel_rfl) (by decide)) (o := 18) (n := 1) rfl (by kernel_rfl)
  obtain ⟨x6, r6, g6⟩ := fldAt hlen hf 6 _ rfl (opens_slice (t := 29) (e := 61) (n := m) (f := ApiEntry.v) (fit := ApiEntry.fit) (by kernel_rfl) (fun k _ => (open_ApiEntry k)) (fun _ => rfl) (z := 10) (fun _ => rfl) (by kernel_rfl) (by decide)) (o := 19) (n := 1) rfl (by kernel_rfl)
  obtain ⟨x7, r7, g7⟩ := fldAt hlen hf 7 _ rfl (opens_slice (t := 30) (e := 96) (n := m) (f := ApiHold.v) (fit := ApiHold.fit) (by kernel_rfl) (fun k _ => (open_ApiHold k)) (fun _ => rfl) (z := 6) (fun _ => rfl) (by kernel_rfl) (by decide)) (o := 20) (n := 1) rfl (by kernel_rfl)
  obtain ⟨x8, r8, g8⟩ := fldAt hlen hf 8 _ rfl (opens_slice (t := 31) (e := 69) (n := m) (f := ApiBlock.v) (fit := ApiBlock.fit) (by kernel_rfl) (fun k _ => (open_ApiBlock k)) (fun _ => rfl) (z := 7) (fun _ => rfl) (by kernel_rfl) (by decide)) (o := 21) (n := 1) rfl (by kernel_rfl)
  exact ⟨⟨x0, x1, x2, x3, x4, x5, x6, x7, x8⟩, (rel_cons r0 (rel_cons r1 (rel_cons r2 (rel_cons r3 (rel_cons r4 (rel_cons r5 (rel_cons r6 (rel_cons r7 (rel_cons r8 (rel_nil (hl.trans (by kernel_rfl)))))))))))), .mk g0 g1 g2 g3 g4 g5 g6 g7 g8⟩
structure Corebanklaw25Query.fit (x : Corebanklaw25Query) : Prop where
  h0 : (fun x => (Lit.int .i64 x).wf = true) x.Id_
  h1 : (fun x => (Lit.int .i64 x).wf = true) x.Day_
  h2 : (fun x => (Lit.int .i64 x).wf = true) x.Amount_
theorem open_Corebanklaw25Query (n : Nat) : OpensAt Tryz.prog n 35 Corebanklaw25Query.v Corebanklaw25Query.fit := by
  intro H enc w base spare held cs d h
  obtain ⟨xs, m, rfl, -, hl, hlen, hf⟩ := DataW.trod_struct (fs := #[{ name := "Id", type := 3, offset := 0, embedded := false, tag := "", pkgPath := "", byteOffset := 0 }, { name := "Day", type := 3, offset := 1, embedded := false, tag := "", pkgPath := "", byteOffset := 8 }, { name := "Amount", type := 3, offset := 2, embedded := false, tag := "", pkgPath := "", byteOffset := 16 }]) (by kernel_rfl) h
  obtain ⟨x0, r0, g0⟩ := fldAt hlen hf 0 _ rfl (opens_int (k := .i64) (t := 3) (by kernel_rfl) m) (o := 0) (n := 1) rfl (by kernel_rfl)
  obtain ⟨x1, r1, g1⟩ := fldAt hlen hf 1 _ rfl (opens_int (k := .i64) (t := 3) (by kernel_rfl) m) (o := 1) (n := 1) rfl (by kernel_rfl)
  obtain ⟨x2, r2, g2⟩ := fldAt hlen hf 2 _ rfl (opens_int (k := .i64) (t := 3) (by kernel_rfl) m) (o := 2) (n := 1) rfl (by kernel_rfl)
  exact ⟨⟨x0, x1, x2⟩, (rel_cons r0 (rel_cons r1 (rel_cons r2 (rel_nil (hl.trans (by kernel_rfl)))))), .mk g0 g1 g2⟩
end
end Go.TL
