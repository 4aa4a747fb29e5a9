/- Data types. -/
import Derived.Test.YthhhejockehncaaGreatDoorTlAH
import Derived.Test.YthhhejockehncaaGreatDoorChecked
set_option maxRecDepth 20000
set_option linter.all false
set_option linter.unusedVariables false
namespace Go.TL
open Go Go.Proofs
noncomputable section
def asciiSpace : List Int := [0, 0, 0, 0, 0, 0, 0, 0, 0, 1, 1, 1, 1, 1, 0, 0, 0, 0, 0, 0, 0, 0, 0, 0, 0, 0, 0, 0, 0, 0, 0, 0, 1] ++ List.replicate 223 0
def Gl : Globals := ⟨[(2, .imm (asciiSpace.map (V.int .u8)) 0)], 0⟩
theorem mo : Tryz.prog.follows .mixedOrders = true := by kernel_rfl
def F_ibytealg_CountString (_N : Nat) (s : List UInt8) (c : Int) : Option Int := some (Lib.countByte s c.toNat.toUInt8 : Nat)
theorem P_ibytealg_CountString {N : Nat} {s : List UInt8} {c : Int} {r : Int} (h : F_ibytealg_CountString N s c = some r) : Pure Tryz.prog (Gl.at 0) 157 [.str s, .int .u8 c] (i64 r) := by
  have e := Option.some.inj h
  subst e
  exact pure_count ⟨Tryz.f157, Tryz.func157, by decide, rfl, by kernel_rfl, by kernel_rfl⟩ s c
def F_ibytealg_IndexByteString (_N : Nat) (s : List UInt8) (c : Int) : Option Int := some (Lib.indexByte s c.toNat.toUInt8)
theorem P_ibytealg_IndexByteString {N : Nat} {s : List UInt8} {c : Int} {r : Int} (h : F_ibytealg_IndexByteString N s c = some r) : Pure Tryz.prog (Gl.at 0) 193 [.str s, .int .u8 c] (i64 r) := by
  have e := Option.some.inj h
  subst e
  exact pure_indexByte ⟨Tryz.f193, Tryz.func193, by decide, rfl, by kernel_rfl, by kernel_rfl⟩ s c
structure ApiCurrency where
  Code_ : List UInt8
  Digits_ : Int
def ApiCurrency.v (x : ApiCurrency) : V := .agg [.str x.Code_, i64 x.Digits_]
structure ApiCalendar where
  Name_ : List UInt8
  Weekend_ : List Int
  Holidays_ : List Int
def ApiCalendar.v (x : ApiCalendar) : V := .agg [.str x.Name_, .sl (x.Weekend_.map i64), .sl (x.Holidays_.map i64)]
structure ApiGl where
  Id_ : Int
  Parent_ : Int
  Kind_ : Int
  Name_ : List UInt8
def ApiGl.v (x : ApiGl) : V := .agg [i64 x.Id_, i64 x.Parent_, i64 x.Kind_, .str x.Name_]
structure ApiPlan where
  Cash_ : Int
  Deposits_ : Int
  InterestPaid_ : Int
  InterestEarned_ : Int
  FeeEarned_ : Int
  Tax_ : Int
  Clearing_ : Int
  Loans_ : Int
  LoanInterest_ : Int
  Penalty_ : Int
  Provision_ : Int
  ProvisionCost_ : Int
  Loss_ : Int
  Recovery_ : Int
def ApiPlan.v (x : ApiPlan) : V := .agg [i64 x.Cash_, i64 x.Deposits_, i64 x.InterestPaid_, i64 x.InterestEarned_, i64 x.FeeEarned_, i64 x.Tax_, i64 x.Clearing_, i64 x.Loans_, i64 x.LoanInterest_, i64 x.Penalty_, i64 x.Provision_, i64 x.ProvisionCost_, i64 x.Loss_, i64 x.Recovery_]
structure ApiTier where
  From_ : Int
  Ppm_ : Int
def ApiTier.v (x : ApiTier) : V := .agg [i64 x.From_, i64 x.Ppm_]
structure ApiInterest where
  Tiers_ : List ApiTier
  Marginal_ : Bool
  Basis_ : Int
  Mode_ : Int
  Keep_ : Bool
def ApiInterest.v (x : ApiInterest) : V := .agg [.sl (x.Tiers_.map ApiTier.v), .bool x.Marginal_, i64 x.Basis_, i64 x.Mode_, .bool x.Keep_]
structure ApiExpr where
  Op_ : Int
  N_ : Int
  S_ : List UInt8
  Args_ : List ApiExpr
mutual
def ApiExpr.va : ApiExpr → List V
  | ⟨_, _, _, a⟩ => ApiExpr.vl a
def ApiExpr.vl : List ApiExpr → List V
  | [] => []
  | a :: l => .agg [i64 a.Op_, i64 a.N_, .str a.S_, .sl a.va] :: ApiExpr.vl l
end
def ApiExpr.v (x : ApiExpr) : V := .agg [i64 x.Op_, i64 x.N_, .str x.S_, .sl x.va]
theorem ApiExpr.va_map (x : ApiExpr) : x.va = x.Args_.map ApiExpr.v := by
  cases x with
  | mk _ _ _ a =>
    show ApiExpr.vl a = a.map ApiExpr.v
    induction a with
    | nil => rfl
    | cons b l ih => simp only [ApiExpr.vl, List.map_cons, ih]; rfl
structure ApiFee where
  Name_ : List UInt8
  Event_ : Int
  When_ : ApiExpr
  Amount_ : ApiExpr
def ApiFee.v (x : ApiFee) : V := .agg [.str x.Name_, i64 x.Event_, i64 x.When_.Op_, i64 x.When_.N_, .str x.When_.S_, .sl x.When_.va, i64 x.Amount_.Op_, i64 x.Amount_.N_, .str x.Amount_.S_, .sl x.Amount_.va]
structure ApiRule where
  Name_ : List UInt8
  Window_ : Int
  Amount_ : ApiExpr
def ApiRule.v (x : ApiRule) : V := .agg [.str x.Name_, i64 x.Window_, i64 x.Amount_.Op_, i64 x.Amount_.N_, .str x.Amount_.S_, .sl x.Amount_.va]
structure ApiProduct where
  Name_ : List UInt8
  Currency_ : List UInt8
  Calendar_ : List UInt8
  From_ : Int
  Every_ : Int
  Overdraft_ : Int
  TaxPpm_ : Int
  Credit_ : ApiInterest
  Debit_ : ApiInterest
  Fees_ : List ApiFee
  Rules_ : List ApiRule
def ApiProduct.v (x : ApiProduct) : V := .agg [.str x.Name_, .str x.Currency_, .str x.Calendar_, i64 x.From_, i64 x.Every_, i64 x.Overdraft_, i64 x.TaxPpm_, .sl (x.Credit_.Tiers_.map ApiTier.v), .bool x.Credit_.Marginal_, i64 x.Credit_.Basis_, i64 x.Credit_.Mode_, .bool x.Credit_.Keep_, .sl (x.Debit_.Tiers_.map ApiTier.v), .bool x.Debit_.Marginal_, i64 x.Debit_.Basis_, i64 x.Debit_.Mode_, .bool x.Debit_.Keep_, .sl (x.Fees_.map ApiFee.v), .sl (x.Rules_.map ApiRule.v)]
structure ApiAccount where
  Id_ : Int
  Opened_ : Int
  Closed_ : Int
  Extra_ : Int
  Owner_ : List UInt8
  Product_ : List UInt8
  Number_ : List UInt8
def ApiAccount.v (x : ApiAccount) : V := .agg [i64 x.Id_, i64 x.Opened_, i64 x.Closed_, i64 x.Extra_, .str x.Owner_, .str x.Product_, .str x.Number_]
structure ApiLeg where
  Account_ : Int
  Amount_ : Int
  Currency_ : List UInt8
def ApiLeg.v (x : ApiLeg) : V := .agg [i64 x.Account_, i64 x.Amount_, .str x.Currency_]
structure ApiEntry where
  Id_ : Int
  Booked_ : Int
  Value_ : Int
  Kind_ : Int
  Auth_ : Int
  Period_ : Int
  Key_ : List UInt8
  Text_ : List UInt8
  Legs_ : List ApiLeg
  Chain_ : Int
def ApiEntry.v (x : ApiEntry) : V := .agg [i64 x.Id_, i64 x.Booked_, i64 x.Value_, i64 x.Kind_, i64 x.Auth_, i64 x.Period_, .str x.Key_, .str x.Text_, .sl (x.Legs_.map ApiLeg.v), .int .u64 x.Chain_]
structure ApiHold where
  Id_ : Int
  Account_ : Int
  Amount_ : Int
  From_ : Int
  To_ : Int
  Key_ : List UInt8
def ApiHold.v (x : ApiHold) : V := .agg [i64 x.Id_, i64 x.Account_, i64 x.Amount_, i64 x.From_, i64 x.To_, .str x.Key_]
structure ApiBlock where
  Id_ : Int
  Account_ : Int
  Kind_ : Int
  Amount_ : Int
  From_ : Int
  To_ : Int
  Source_ : List UInt8
def ApiBlock.v (x : ApiBlock) : V := .agg [i64 x.Id_, i64 x.Account_, i64 x.Kind_, i64 x.Amount_, i64 x.From_, i64 x.To_, .str x.Source_]
structure ApiBooks where
  Currencies_ : List ApiCurrency
  Calendars_ : List ApiCalendar
  Chart_ : List ApiGl
  Plan_ : ApiPlan
  Products_ : List ApiProduct
  Accounts_ : List ApiAccount
  Journal_ : List ApiEntry
  Holds_ : List ApiHold
  Blocks_ : List ApiBlock
def ApiBooks.v (x : ApiBooks) : V := .agg [.sl (x.Currencies_.map ApiCurrency.v), .sl (x.Calendars_.map ApiCalendar.v), .sl (x.Chart_.map ApiGl.v), i64 x.Plan_.Cash_, i64 x.Plan_.Deposits_, i64 x.Plan_.InterestPaid_, i64 x.Plan_.InterestEarned_, i64 x.Plan_.FeeEarned_, i64 x.Plan_.Tax_, i64 x.Plan_.Clearing_, i64 x.Plan_.Loans_, i64 x.Plan_.LoanInterest_, i64 x.Plan_.Penalty_, i64 x.Plan_.Provision_, i64 x.Plan_.ProvisionCost_, i64 x.Plan_.Loss_, i64 x.Plan_.Recovery_, .sl (x.Products_.map ApiProduct.v), .sl (x.Accounts_.map ApiAccount.v), .sl (x.Journal_.map ApiEntry.v), .sl (x.Holds_.map ApiHold.v), .sl (x.Blocks_.map ApiBlock.v)]
structure Corebanklaw25Query where
  Id_ : Int
  Day_ : Int
  Amount_ : Int
def Corebanklaw25Query.v (x : Corebanklaw25Query) : V := .agg [i64 x.Id_, i64 x.Day_, i64 x.Amount_]
structure ApiValue where
  Type_ : Int
  N_ : Int
def ApiValue.v (x : ApiValue) : V := .agg [i64 x.Type_, i64 x.N_]
structure ApiVar where
  Name_ : List UInt8
  Type_ : Int
def ApiVar.v (x : ApiVar) : V := .agg [.str x.Name_, i64 x.Type_]
structure ApiToken where
  Kind_ : Int
  Line_ : Int
  Text_ : List UInt8
def ApiToken.v (x : ApiToken) : V := .agg [i64 x.Kind_, i64 x.Line_, .str x.Text_]
abbrev GG (res : List RS) (r : V) := Run Tryz.prog (Gl.at 0) none 0 (PostR res r)
end
end Go.TL
